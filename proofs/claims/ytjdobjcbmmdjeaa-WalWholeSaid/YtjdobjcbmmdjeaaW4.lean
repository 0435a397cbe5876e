/- Contracts of package wal: none, Most, outside, Clone; the journal's memory. -/
import Derived.Test.YtjdobjcbmmdjeaaS3
import Derived.Test.YtjdobjcbmmdjeaaRm
namespace Go.Proofs.Ytjdobjcbmmdjeaa
open Go.RowKit

abbrev KI : Keys Try.prog 3 Int := Keys.ofInt Try.underlying3

/-- a journal: where it lies, how many sectors it has, what is put -/
structure Jr where
  (at_ sec : Nat)
  put : List (Int × List UInt8)

/-- a sector that is put -/
def SecV (w : World) (F : Nat → Prop) (v : Value) (b : List UInt8) : Prop := b.length = 256 ∧ ∃ A c, v = .slice A 256 c ∧ w.ownsRow 0 5 1 (.slice A 256 c) 256 (B8 b) ∧ ∀ q, (Value.slice A 256 c).ownBlock = some q → F q
def PutRel (w : World) (F : Nat → Prop) : List (Int × Value) → List (Int × List UInt8) → Prop
  | [], [] => True
  | x :: D, y :: P => x.1 = y.1 ∧ SecV w F x.2 y.2 ∧ PutRel w F D P
  | _, _ => False
def JrAt (w : World) (F : Nat → Prop) (j d : Nat) (J : Jr) : Prop := ∃ g D, F j ∧ F g ∧ Blk w j 62 [.pointer (some ⟨d, 0, none⟩), .int .i64 (J.at_ : Int), .int .i64 (J.sec : Int), .map (some g)] ∧ MapAt KI w g D ∧ PutRel w F D J.put ∧ ∀ b, F b → b < w.heap.size

section
variable {w w' : World} {F G : Nat → Prop} {j d : Nat} {J : Jr} {v : Value} {b : List UInt8} {D : List (Int × Value)} {P : List (Int × List UInt8)}
theorem SecV.mod (h : SecV w F v b) (hm : Mod G w w') (hG : ∀ b, F b → ¬ G b) : SecV w' F v b := by
  obtain ⟨h1, A, c, rfl, h2, h3⟩ := h
  exact ⟨h1, A, c, rfl, own_mod h2 hm (fun q hq => hG q (h3 q hq)), h3⟩
theorem SecV.mono (h : SecV w F v b) (hF : ∀ b, F b → G b) : SecV w G v b := by
  obtain ⟨h1, A, c, rfl, h2, h3⟩ := h
  exact ⟨h1, A, c, rfl, h2, fun q hq => hF q (h3 q hq)⟩
theorem PutRel.imp (hv : ∀ v b, SecV w F v b → SecV w' G v b) : ∀ {D : List (Int × Value)} {P : List (Int × List UInt8)}, PutRel w F D P → PutRel w' G D P
  | [], [], _ => trivial
  | [], _ :: _, h => h.elim
  | _ :: _, [], h => h.elim
  | _ :: _, _ :: _, ⟨h1, h2, h3⟩ => ⟨h1, hv _ _ h2, PutRel.imp hv h3⟩
theorem PutRel.keys : ∀ {D : List (Int × Value)} {P : List (Int × List UInt8)}, PutRel w F D P → D.map (·.1) = P.map (·.1)
  | [], [], _ => rfl
  | [], _ :: _, h => h.elim
  | _ :: _, [], h => h.elim
  | _ :: _, _ :: _, ⟨h1, _, h3⟩ => by simp [h1, PutRel.keys h3]
theorem PutRel.get : ∀ {D : List (Int × Value)} {P : List (Int × List UInt8)}, PutRel w F D P → ∀ a, (mget D a = none ∧ mget P a = none) ∨ ∃ v b, mget D a = some v ∧ mget P a = some b ∧ SecV w F v b
  | [], [], _, a => .inl ⟨rfl, rfl⟩
  | [], _ :: _, h, _ => h.elim
  | _ :: _, [], h, _ => h.elim
  | x :: D, y :: P, ⟨h1, h2, h3⟩, a => by
    unfold mget
    by_cases e : a = x.1
    · rw [if_pos e, if_pos (by rw [← h1]; exact e)]
      exact .inr ⟨_, _, rfl, rfl, h2⟩
    · rw [if_neg e, if_neg (by rw [← h1]; exact e)]
      exact PutRel.get h3 a
theorem PutRel.put {a : Int} (hv : SecV w F v b) : ∀ {D : List (Int × Value)} {P : List (Int × List UInt8)}, PutRel w F D P → PutRel w F (mput D a v) (mput P a b)
  | [], [], _ => ⟨rfl, hv, trivial⟩
  | [], _ :: _, h => h.elim
  | _ :: _, [], h => h.elim
  | x :: D, y :: P, ⟨h1, h2, h3⟩ => by
    unfold mput
    by_cases e : a = x.1
    · rw [if_pos e, if_pos (by rw [← h1]; exact e)]
      exact ⟨rfl, hv, h3⟩
    · rw [if_neg e, if_neg (by rw [← h1]; exact e)]
      exact ⟨h1, h2, PutRel.put hv h3⟩
theorem JrAt.mod (h : JrAt w F j d J) (hm : Mod G w w') (hG : ∀ b, F b → ¬ G b) : JrAt w' F j d J := by
  obtain ⟨g, D, h1, h2, h3, h4, h5, h6⟩ := h
  exact ⟨g, D, h1, h2, h3.mod hm (hG _ h1), h4.mod hm (hG _ h2), h5.imp (fun _ _ h => h.mod hm hG), fun b hb => Nat.lt_of_lt_of_le (h6 b hb) hm.size⟩
theorem JrAt.below (h : JrAt w F j d J) (hb : Below w.heap.size w w') : JrAt w' F j d J := h.mod (G := fun _ => False) (Mod.of_below hb) (fun _ _ h => h)
theorem JrAt.lt (h : JrAt w F j d J) {b : Nat} (hb : F b) : b < w.heap.size := by
  obtain ⟨_, _, _, _, _, _, _, h⟩ := h
  exact h b hb
theorem JrAt.cells (h : JrAt w F j d J) : ∃ g, w.cell? ⟨j, 0, none⟩ = some (.pointer (some ⟨d, 0, none⟩)) ∧ w.cell? ⟨j, 1, none⟩ = some (.int .i64 (J.at_ : Int)) ∧ w.cell? ⟨j, 2, none⟩ = some (.int .i64 (J.sec : Int)) ∧ w.cell? ⟨j, 3, none⟩ = some (.map (some g)) ∧ j < w.heap.size := by
  obtain ⟨g, D, _, _, h3, _⟩ := h
  exact ⟨g, by rw [h3.cell]; rfl, by rw [h3.cell]; rfl, by rw [h3.cell]; rfl, by rw [h3.cell]; rfl, h3.lt⟩
end

theorem none_ok (w : World) (j : Nat) (g : Nat) (h : w.cell? ⟨j, 3, none⟩ = some (.map (some g))) : Calls Try.prog 45 #[.pointer (some ⟨j, 0, none⟩)] w fun e w' => e = .returned (.bool false) ∧ w = w' := by
  have q := fun (w : World) => run_eql_map_nil (P := Try.prog) w 60 _ _ (some g) Try.underlying60
  go_enter Try.func45, Try.ntmps45
  go_wp2_with fail
  go_ret
  exact ⟨rfl, rfl⟩
theorem JrAt.isnt {w : World} {F : Nat → Prop} {j d : Nat} {J : Jr} (h : JrAt w F j d J) : Calls Try.prog 45 #[.pointer (some ⟨j, 0, none⟩)] w fun e w' => e = .returned (.bool false) ∧ w = w' := by
  obtain ⟨g, _, _, _, h3, _⟩ := h.cells
  exact none_ok w j g h3
theorem JrAt.most {w : World} {F : Nat → Prop} {j d : Nat} {J : Jr} (h : JrAt w F j d J) (hs : J.sec ≤ 1000000) (hs1 : 1 ≤ J.sec) : Calls Try.prog 31 #[.pointer (some ⟨j, 0, none⟩)] w fun e w' => e = .returned (.int .i64 ((J.sec - 1 : Nat) : Int)) ∧ w = w' := by
  have HN := Lib.hid h.isnt
  obtain ⟨g, _, _, c2, _, hl⟩ := h.cells
  have hsub : IntKind.i64.wrap ((J.sec : Int) - 1) = ((J.sec - 1 : Nat) : Int) := by rw [IntKind.wrap_i64]; omega
  clear h
  go_enter Try.func31, Try.ntmps31
  go_wp2_with fail
  refine HN.out.mono ?_
  rintro e w' ⟨rfl, rfl⟩
  go_wp2_with fail
  go_ret
  exact ⟨rfl, rfl⟩
end Go.Proofs.Ytjdobjcbmmdjeaa
