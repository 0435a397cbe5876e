/- RefdbX: contracts of sorted, has, New. -/
import Derived.Test.YtcffmpjdonncgaaG1
import Derived.Test.YtcffmpjdonncgaaRc
namespace Go.Proofs.Ytcffmpjdonncgaa
open Go.RowKit Go.Proofs.YtcffmpjdonncgaaW.PrintWords
open Go.Proofs.Ytcffmpjdonncgaa.PRef (S33 k33 k33_open z33)

theorem sorted_ok (w : World) (F : Nat → Prop) (A : Option Addr) (n c : Nat) (l : List ByteArray) (h : Sl w F 1 (.slice A n c) n (strs l)) (hn : n ≤ 1000000) :
    Calls Try.prog 26 #[.slice A n c] w fun e w' => ∃ A' c', e = .returned (.slice A' (SU l).length c') ∧ w'.ownsRow 0 9 1 (.slice A' (SU l).length c') (SU l).length (strs (SU l)) ∧ (∀ b, (Value.slice A' (SU l).length c').ownBlock = some b → w.heap.size ≤ b) ∧ Below w.heap.size w w' := by
  have HS := Lib.hid h
  clear h
  go_enter Try.func26, Try.ntmps26
  go_wp2_with fail
  refine (clone_strs A n c l F w HS.out (by omega)).mono ?_
  rintro e w1 ⟨A1, c1, rfl, o1, b1, f1⟩
  have H1 := Lib.hid (And.intro o1 (And.intro b1 f1))
  clear o1 b1 f1
  go_wp2_with fail
  refine (sort_strs w1 A1 n c1 l H1.out.1 (by omega)).mono ?_
  rintro e w2 ⟨rfl, o2, m2⟩
  have H2 := Lib.hid (And.intro o2 m2)
  clear o2 m2
  go_wp2_with fail
  refine (compact_strs w2 A1 n c1 _ H2.out.1 (by omega)).mono ?_
  rintro e w3 ⟨rfl, o3, m3⟩
  have e1 : (cooked (Lib.compact (raw (cooked ((raw l).mergeSort leL))))) = SU l := by rw [raw_cooked]; rfl
  rw [e1] at o3 ⊢
  have H3 := Lib.hid (And.intro o3 m3)
  clear o3 m3 e1
  go_wp2_with fail
  go_ret
  have hb1 := H1.out.2.1.size
  exact ⟨A1, c1, rfl, H3.out.1, fun b hb => H1.out.2.2 b (by cases A1 <;> exact hb), (H1.out.2.1.trans (H2.out.2.below hb1 (fun b hb => H1.out.2.2 b hb))).trans (H3.out.2.below (by have := H2.out.2.size; omega) (fun b hb => H1.out.2.2 b hb))⟩

theorem has_ok (w : World) (g r : Nat) (p : ByteArray) (v : Value) (x : Bool) (hc : w.cell? ⟨g, 0, none⟩ = some (.map (some r))) (hrun : (Instr.lookup 39 (.map (some r)) (.string p) true).run Try.prog w = .ok (.tuple #[v, .bool x]) w) :
    Calls Try.prog 27 #[.pointer (some ⟨g, 0, none⟩), .string p] w fun e w' => e = .returned (.bool x) ∧ w = w' := by
  go_enter Try.func27, Try.ntmps27
  go_wp2_with fail
  go_ret
  exact ⟨rfl, rfl⟩
theorem NewSt.has {w0 w : World} {X : Nat → Prop} {g r b e d : Nat} {M1 Mb Md : List (ByteArray × List ByteArray)} {E : List ((ByteArray × ByteArray) × Value)} (h : NewSt w0 w X g r b e d M1 Mb Md E) (p : ByteArray) : Calls Try.prog 27 #[.pointer (some ⟨g, 0, none⟩), .string p] w fun e w' => e = .returned (.bool (mget M1 p).isSome) ∧ w = w' := by
  obtain ⟨⟨Fr, Fb, Fd, D1, Db, Dd, hs, hlo, _⟩, hbel⟩ := h
  obtain ⟨v, _, hrun, _, _⟩ := hs.refs.look (mt := 39) (st := 23) Try.underlying39 zeroStrs p
  exact has_ok w g r p v _ hs.cells.1 hrun

open Classical in
noncomputable def newErr (l : List S33) : Int := if 4096 < l.length then 2 else if ¬ (l.map (·.f0)).Nodup then 13 else if ∃ x ∈ l, ∃ t ∈ x.f3, t ∉ l.map (fun y => y.f0) then 14 else 0

noncomputable def backOf (k : List (ByteArray × List ByteArray)) : List (ByteArray × List ByteArray) := k.foldl (fun M x => x.2.foldl (fun M t => mput M t (mgetD M t ++ [x.1])) M) []
noncomputable def edgeOf (k : List (ByteArray × List ByteArray)) : List ((ByteArray × ByteArray) × Value) := k.foldl (fun E x => x.2.foldl (fun E t => mput E (x.1, t) (.bool true)) E) []
def M1f (l : List S33) (i : Nat) : List (ByteArray × List ByteArray) := (l.take i).map fun x => (x.f0, SU x.f3)
def Mdf (l : List S33) (i : Nat) : List (ByteArray × List ByteArray) := (l.take i).foldl (fun M x => mput M x.f2 (mgetD M x.f2 ++ [x.f0])) []
theorem NewSt.blk {w0 w : World} {X : Nat → Prop} {g r b e d : Nat} {M1 Mb Md : List (ByteArray × List ByteArray)} {E : List ((ByteArray × ByteArray) × Value)} (h : NewSt w0 w X g r b e d M1 Mb Md E) : Blk w g 42 [.map (some r), .map (some b), .map (some e), .map (some d)] := by
  obtain ⟨⟨_, _, _, _, _, _, hs, _, _⟩, _⟩ := h
  exact hs.blk
theorem new_start (w : World) : NewSt w (((((w.alloc (.map #[] 0)).alloc (.map #[] 0)).alloc (.map #[] 0)).alloc (.map #[] 0)).alloc (.cells #[.map (some w.heap.size), .map (some (w.heap.size + 1)), .map (some (w.heap.size + 1 + 1)), .map (some (w.heap.size + 1 + 1 + 1))] 42)) (fun _ => False) (w.heap.size + 1 + 1 + 1 + 1) w.heap.size (w.heap.size + 1) (w.heap.size + 1 + 1) (w.heap.size + 1 + 1 + 1) [] [] [] [] := by
  have r0 := SM.new (K := KS) (se := 9) w
  have b0 := SM.new (K := KS) (se := 9) (w.alloc (.map #[] 0))
  have e0 := MapAt.new (K := KE) ((w.alloc (.map #[] 0)).alloc (.map #[] 0))
  have d0 := SM.new (K := KS) (se := 9) (((w.alloc (.map #[] 0)).alloc (.map #[] 0)).alloc (.map #[] 0))
  have g0 := Blk.new ((((w.alloc (.map #[] 0)).alloc (.map #[] 0)).alloc (.map #[] 0)).alloc (.map #[] 0)) 42 #[.map (some w.heap.size), .map (some (w.heap.size + 1)), .map (some (w.heap.size + 1 + 1)), .map (some (w.heap.size + 1 + 1 + 1))]
  simp only [World.size_alloc] at b0 e0 d0 g0
  have al : ∀ (w : World) (o : Obj), Below w.heap.size w (w.alloc o) := fun w o => (Below.refl _ _).alloc (Nat.le_refl _) _
  have hB : Below w.heap.size w (((((w.alloc (.map #[] 0)).alloc (.map #[] 0)).alloc (.map #[] 0)).alloc (.map #[] 0)).alloc (.cells #[.map (some w.heap.size), .map (some (w.heap.size + 1)), .map (some (w.heap.size + 1 + 1)), .map (some (w.heap.size + 1 + 1 + 1))] 42)) := by
    refine Below.alloc (Below.alloc (Below.alloc (Below.alloc (al w _) ?_ _) ?_ _) ?_ _) ?_ _
    all_goals (simp only [World.size_alloc]; omega)
  exact ⟨⟨_, _, _, _, _, _, ⟨g0, (((r0.below (al _ _)).below (al _ _)).below (al _ _)).below (al _ _), ((b0.below (al _ _)).below (al _ _)).below (al _ _), d0.below (al _ _), (e0.below (al _ _)).below (al _ _), fun x hx hy => by omega, fun x hx hy => by omega, fun x hx hy => by omega, by omega, by omega, by omega, by omega, by omega, by omega, by omega⟩, fun x hx => by omega, fun x hx => hx.elim⟩, hB⟩
theorem NewSt.look {w0 w : World} {X : Nat → Prop} {g r b e d : Nat} {M1 Mb Md : List (ByteArray × List ByteArray)} {E : List ((ByteArray × ByteArray) × Value)} (h : NewSt w0 w X g r b e d M1 Mb Md E) (p : ByteArray) : ∃ v, (Instr.lookup 39 (.map (some r)) (.string p) true).run Try.prog w = .ok (.tuple #[v, .bool (mget M1 p).isSome]) w := by
  obtain ⟨⟨Fr, Fb, Fd, D1, Db, Dd, hs, hlo, _⟩, hbel⟩ := h
  obtain ⟨v, _, hrun, _, _⟩ := hs.refs.look (mt := 39) (st := 23) Try.underlying39 zeroStrs p
  exact ⟨v, hrun⟩
theorem mgetD_mput (M : List (ByteArray × List ByteArray)) (a b : ByteArray) (l : List ByteArray) : mgetD (mput M a l) b = if b = a then l else mgetD M b := by
  unfold mgetD
  rw [mget_mput]
  split <;> rfl
theorem Mdf_le (l : List S33) (i : Nat) (a : ByteArray) : (mgetD (Mdf l i) a).length ≤ i := by
  have key : ∀ (k : List S33) (M : List (ByteArray × List ByteArray)), (mgetD (k.foldl (fun M x => mput M x.f2 (mgetD M x.f2 ++ [x.f0])) M) a).length ≤ (mgetD M a).length + k.length := by
    intro k
    induction k with
    | nil => intro M; exact Nat.le_refl _
    | cons x k ih =>
      intro M
      simp only [List.foldl_cons, List.length_cons]
      have h := ih (mput M x.f2 (mgetD M x.f2 ++ [x.f0]))
      rw [mgetD_mput] at h
      split at h
      · rename_i e
        subst e
        rw [List.length_append, List.length_singleton] at h
        omega
      · omega
  have h := key (l.take i) []
  have h2 : (l.take i).length ≤ i := List.length_take_le _ _
  have h3 : (mgetD ([] : List (ByteArray × List ByteArray)) a).length = 0 := rfl
  rw [h3] at h
  unfold Mdf
  omega
theorem M1f_snoc {l : List S33} {i : Nat} {x : S33} (hx : l[i]? = some x) (hn : x.f0 ∉ (M1f l i).map (·.1)) : mput (M1f l i) x.f0 (SU x.f3) = M1f l (i + 1) := by
  rw [mput_new (mget_none.2 hn)]
  simp only [M1f]
  obtain ⟨hi, rfl⟩ := List.getElem?_eq_some_iff.1 hx
  rw [List.take_succ_eq_append_getElem hi, List.map_append]
  rfl
theorem Mdf_snoc {l : List S33} {i : Nat} {x : S33} (hx : l[i]? = some x) : mput (Mdf l i) x.f2 (mgetD (Mdf l i) x.f2 ++ [x.f0]) = Mdf l (i + 1) := by
  simp only [Mdf]
  obtain ⟨hi, rfl⟩ := List.getElem?_eq_some_iff.1 hx
  rw [List.take_succ_eq_append_getElem hi, List.foldl_append]
  rfl

def kk (l : List S33) (done : List (ByteArray × Value)) : List (ByteArray × List ByteArray) := done.map fun x => (x.1, mgetD (M1f l l.length) x.1)
theorem M1f_keys (l : List S33) : (M1f l l.length).map (·.1) = l.map (·.f0) := by
  simp only [M1f, List.take_length, List.map_map]
  rfl
theorem M1f_get {l : List S33} (hn : (l.map (·.f0)).Nodup) {x : S33} (hx : x ∈ l) : mget (M1f l l.length) x.f0 = some (SU x.f3) := by
  refine mget_of_mem (by rw [M1f_keys]; exact hn) ?_
  simp only [M1f, List.take_length]
  exact List.mem_map.2 ⟨x, hx, rfl⟩
theorem M1f_mem {l : List S33} {p : ByteArray} (h : p ∈ (M1f l l.length).map (·.1)) : ∃ x ∈ l, x.f0 = p := by
  rw [M1f_keys] at h
  exact List.mem_map.1 h
theorem Iter.len {α : Type} [DecidableEq α] {P : Program} {t : TypeId} {K : Keys P t α} {w : World} {r g : Nat} {D done : List (α × Value)} (h : Iter K w r g D done) : done.length ≤ D.length := by
  obtain ⟨_, _, _, _, _, _, _, _, _, _, _, _, _, _, ds, _, _, _, hdn, hdD⟩ := h
  exact (nodup_of_map _ hdn).length_le_of_subset hdD
theorem kk_all {l : List S33} {D : List (ByteArray × Value)} (hn : (l.map (·.f0)).Nodup) (h : D.map (·.1) = (M1f l l.length).map (·.1)) : kk l D = M1f l l.length := by
  have e : kk l D = (D.map (·.1)).map (fun p => (p, mgetD (M1f l l.length) p)) := by simp [kk, Function.comp_def]
  rw [e, h, List.map_map]
  conv => rhs; rw [← List.map_id (M1f l l.length)]
  refine List.map_congr_left fun x hx => ?_
  have : mget (M1f l l.length) x.1 = some x.2 := mget_of_mem (by rw [M1f_keys]; exact hn) hx
  simp [mgetD, this]
def backJ (p : ByteArray) (M : List (ByteArray × List ByteArray)) (ts : List ByteArray) : List (ByteArray × List ByteArray) := ts.foldl (fun M t => mput M t (mgetD M t ++ [p])) M
def edgeJ (p : ByteArray) (E : List ((ByteArray × ByteArray) × Value)) (ts : List ByteArray) : List ((ByteArray × ByteArray) × Value) := ts.foldl (fun E t => mput E (p, t) (.bool true)) E
theorem backOf_snoc (k : List (ByteArray × List ByteArray)) (p : ByteArray) (ts : List ByteArray) : backOf (k ++ [(p, ts)]) = backJ p (backOf k) ts := by simp [backOf, backJ, List.foldl_append]
theorem edgeOf_snoc (k : List (ByteArray × List ByteArray)) (p : ByteArray) (ts : List ByteArray) : edgeOf (k ++ [(p, ts)]) = edgeJ p (edgeOf k) ts := by simp [edgeOf, edgeJ, List.foldl_append]
theorem backJ_succ (p : ByteArray) (M : List (ByteArray × List ByteArray)) {ts : List ByteArray} {j : Nat} {t : ByteArray} (h : ts[j]? = some t) : backJ p M (ts.take (j + 1)) = mput (backJ p M (ts.take j)) t (mgetD (backJ p M (ts.take j)) t ++ [p]) := by
  obtain ⟨hj, rfl⟩ := List.getElem?_eq_some_iff.1 h
  unfold backJ
  rw [List.take_succ_eq_append_getElem hj, List.foldl_append]
  rfl
theorem edgeJ_succ (p : ByteArray) (E : List ((ByteArray × ByteArray) × Value)) {ts : List ByteArray} {j : Nat} {t : ByteArray} (h : ts[j]? = some t) : edgeJ p E (ts.take (j + 1)) = mput (edgeJ p E (ts.take j)) (p, t) (.bool true) := by
  obtain ⟨hj, rfl⟩ := List.getElem?_eq_some_iff.1 h
  unfold edgeJ
  rw [List.take_succ_eq_append_getElem hj, List.foldl_append]
  rfl
/-- a graph of infos -/
def GrAt (w : World) (g : Nat) (l : List S33) : Prop := ∃ X r b e d k, NewSt w w X g r b e d (M1f l l.length) (backOf k) (Mdf l l.length) (edgeOf k) ∧ k.Perm (M1f l l.length)
def NewPost (w : World) (l : List S33) (e : Ending) (w' : World) : Prop := Below w.heap.size w w' ∧ ((newErr l = 0 ∧ ∃ g, e = .returned (.tuple #[.pointer (some ⟨g, 0, none⟩), .int .i64 0]) ∧ w.heap.size ≤ g ∧ ∃ r b e d k, NewSt w w' (fun _ => False) g r b e d (M1f l l.length) (backOf k) (Mdf l l.length) (edgeOf k) ∧ k.Perm (M1f l l.length)) ∨
  (newErr l ≠ 0 ∧ e = .returned (.tuple #[.pointer none, .int .i64 (newErr l)])))

set_option maxRecDepth 100000 in
set_option maxHeartbeats 4000000 in
theorem new_ok (w : World) (A : Option Addr) (n c : Nat) (l : List S33) (h : Kd.C k33 w A n l) (hn : n ≤ 4096) (hr : ∀ x ∈ l, x.f3.length ≤ 1000) :
    Calls Try.prog 9 #[.slice A n c] w (NewPost w l) := by
  have HI0 := Lib.hid (info_at h)
  have HR := Lib.hid hr
  have hmk : ∀ wx : World, (Instr.makeMap 39 none).run Try.prog wx = .ok (.map (some wx.heap.size)) (wx.alloc (.map #[] 0)) := fun wx => rfl
  have hmk2 : ∀ wx : World, (Instr.makeMap 40 none).run Try.prog wx = .ok (.map (some wx.heap.size)) (wx.alloc (.map #[] 0)) := fun wx => rfl
  have hns := Lib.hid (new_start w)
  clear h hr
  go_enter Try.func9, Try.ntmps9
  go_wp2_with fail
  obtain ⟨g, hg⟩ : ∃ g, g = w.heap.size + 1 + 1 + 1 + 1 := ⟨_, rfl⟩
  obtain ⟨r, b, e, d, hrbed⟩ : ∃ r b e d, r = w.heap.size ∧ b = w.heap.size + 1 ∧ e = w.heap.size + 1 + 1 ∧ d = w.heap.size + 1 + 1 + 1 := ⟨_, _, _, _, rfl, rfl, rfl, rfl⟩
  obtain ⟨hr0, hb0, he0, hd0⟩ := hrbed
  have hns1 := hns.out
  rw [← hg, ← hd0, ← he0, ← hb0, ← hr0] at hns1
  try rw [← hg]
  rw [← hd0, ← he0, ← hb0, ← hr0]
  obtain ⟨w5, hw5⟩ : ∃ w5, w5 = (((((w.alloc (.map #[] 0)).alloc (.map #[] 0)).alloc (.map #[] 0)).alloc (.map #[] 0)).alloc (.cells #[.map (some r), .map (some b), .map (some e), .map (some d)] 42)) := ⟨_, rfl⟩
  rw [← hw5] at hns1 ⊢
  have HN5 := Lib.hid hns1
  clear hw5 hns hns1 hg hr0 hb0 he0 hd0 hmk hmk2
  go_loopg [24] n (fun kq iv wr => ∃ (i : Nat), iv = .int .i64 i ∧ i ≤ n ∧ kq = n - i ∧ Hid (NewSt w wr (fun _ => False) g r b e d (M1f l i) [] (Mdf l i) []) ∧ Hid (((l.take i).map (·.f0)).Nodup))
  case atStart => exact ⟨0, rfl, Nat.zero_le _, rfl, HN5, Lib.hid (by simp)⟩
  case round =>
    clear HN5
    obtain ⟨i, rfl, hi, rfl, hst, hnd⟩ := hrel
    by_cases hlt : i < n
    · obtain ⟨hln, _, hc0⟩ := HI0.out
      obtain ⟨ab, ao, rfl, hab, hcl⟩ := hc0 (by omega)
      obtain ⟨x0, hx0⟩ : ∃ x0, l[i]? = some x0 := ⟨_, List.getElem?_eq_getElem (by omega)⟩
      obtain ⟨A3, c3, e0, e1, e2, e3, hsl⟩ := hcl i x0 hx0
      have up : ∀ q u, w.cell? ⟨ab, q, none⟩ = some u → wr.cell? ⟨ab, q, none⟩ = some u := fun q u hu => (hst.out.bel.cell (p := ⟨ab, q, none⟩) hab).trans hu
      have e0 := up _ _ e0
      have e1 := up _ _ e1
      have e2 := up _ _ e2
      have e3 := up _ _ e3
      have hsl := (hsl.agree (fun q hq => hst.out.bel.block q hq))
      have hx3 : x0.f3.length ≤ 1000 := HR.out x0 (List.mem_of_getElem? hx0)
      have HX0 := Lib.hid hx0
      have HSL0 := Lib.hid hsl
      have HX := Lib.hid (show x0.f3.length ≤ 1000000 by omega)
      obtain ⟨wa, hwa⟩ : ∃ wa, wa = wr.alloc (.cells #[.string x0.f0, .string x0.f1, .string x0.f2, .slice A3 x0.f3.length c3] 33) := ⟨_, rfl⟩
      obtain ⟨a6, ha6⟩ : ∃ a6, a6 = wr.heap.size := ⟨_, rfl⟩
      have HBA : Hid (Blk wa a6 33 [.string x0.f0, .string x0.f1, .string x0.f2, .slice A3 x0.f3.length c3]) := by rw [hwa, ha6]; exact Lib.hid (Blk.new wr 33 _)
      have HNA : Hid (NewSt w wa (fun q => q = a6) g r b e d (M1f l i) [] (Mdf l i) []) := by rw [hwa]; exact Lib.hid ((hst.out.keep ((Below.refl _ _).alloc (Nat.le_refl _) _)).weaken (fun x hx => .inr (by rw [hx, ha6]; simp)))
      have HSLA : Hid (Sl wa (fun b => b < w.heap.size) 1 (.slice A3 x0.f3.length c3) x0.f3.length (strs x0.f3)) := Lib.hid (HSL0.out.agree (fun q hq => HNA.out.bel.block q hq |>.trans (hst.out.bel.block q hq).symm))
      have HWA := Lib.hid (And.intro hwa ha6)
      clear hcl up hln hc0 hx0 hsl hx3 hst hwa ha6 HSL0
      go_upto_region 7 with fail
      rw [← HWA.out.2, ← HWA.out.1]
      clear HWA e0 e1 e2 e3
      obtain ⟨wd, hwd⟩ : ∃ wd, wd = wa.drew := ⟨_, rfl⟩
      have hbd : Below wa.heap.size wa wd := by rw [hwd]; exact (Below.refl _ _).drew
      have HN7 := Lib.hid (HNA.out.later hbd)
      have HB7 := Lib.hid (HBA.out.below' hbd)
      obtain ⟨v7, hlk⟩ := HN7.out.look x0.f0
      have HST2 : Hid (wd.cell? ⟨g, 0, none⟩ = some (.map (some r)) ∧ g < wd.heap.size) := Lib.hid ⟨HN7.out.cells.1, HN7.out.cells.2.2.2.2⟩
      have HB2 : Hid (wd.cell? ⟨a6, 0, none⟩ = some (.string x0.f0) ∧ a6 < wd.heap.size) := Lib.hid ⟨by rw [HB7.out.cell]; rfl, HB7.out.lt⟩
      obtain ⟨bt, hbt⟩ : ∃ bt, bt = (mget (M1f l i) x0.f0).isSome := ⟨_, rfl⟩
      rw [← hbt] at hlk
      have HBT := Lib.hid hbt
      have HLK := Lib.hid hlk
      clear hlk hbt hbd
      try simp only [Act.put, List.setIfInBounds_toArray, List.set_cons_zero, List.set_cons_succ]
      obtain ⟨Inv, hInv⟩ : ∃ Inv : Done → World → Prop, Inv = fun _ wI => (fun wI => wI = wd) wI := ⟨_, rfl⟩
      have HI := Lib.hid hInv
      have hcz : Hid (∀ τ wI, Inv τ wI → wI = wd) := by
        intro τ wI h
        rw [hInv] at h
        exact h
      have H00 : Hid (Inv Done.none wa.drew) := by rw [hInv]; exact hwd.symm
      clear hInv hwd
      refine wp_region_inv (by kernel_rfl) [⟨0, false, [], []⟩, ⟨1, false, [], []⟩, ⟨2, false, [], []⟩, ⟨3, false, [], []⟩, ⟨4, false, [], []⟩, ⟨5, false, [], []⟩, ⟨6, false, [], []⟩, ⟨7, false, [], []⟩, ⟨8, false, [], []⟩, ⟨9, false, [], []⟩, ⟨10, false, [], []⟩, ⟨11, false, [], []⟩] (by kernel_rfl) Inv (fun _ _ => True) (fun _ => ⟨undef, trivial⟩) H00.out ?_
      iterate 12 (apply WpI.pure; (simp only [List.getElem?_toArray, List.getElem?_cons_succ, List.getElem?_cons_zero]; rfl); (intro τ wI hA hI; have f0 := hcz.out τ wI hI; have e1 := f0; clear f0; subst e1; have q1 := HST2.out.1; have q2 := HST2.out.2; have q3 := HB2.out.1; have q5 := HB2.out.2; have q4 := HLK.out; go_simp; exact ⟨hI, Is.rfl'⟩); simp only [Act.put, List.setIfInBounds_toArray, List.set_cons_zero, List.set_cons_succ])
      refine WpI.done ?_
      intro w8 hI
      rw [HI.out] at hI
      have hE := hI
      subst hE
      by_cases hb : bt = true
      · subst hb
        have hbel := HN7.out.bel
        have hdup : newErr l = 13 := by
          obtain ⟨hln, _, _⟩ := HI0.out
          unfold newErr
          rw [if_neg (by omega), if_pos]
          intro hn2
          have e := HBT.out.symm
          cases hm : mget (M1f l i) x0.f0 with
          | none => rw [hm] at e; cases e
          | some v =>
            have hmem : x0.f0 ∈ (l.take i).map (·.f0) := by
              have h2 : x0.f0 ∈ (M1f l i).map (fun x => x.1) := List.mem_map.2 ⟨(x0.f0, v), mget_mem hm, rfl⟩
              simpa [M1f, Function.comp_def] using h2
            obtain ⟨hil, hxe⟩ := List.getElem?_eq_some_iff.1 HX0.out
            rw [← List.take_append_drop i l, List.map_append, List.nodup_append] at hn2
            refine hn2.2.2 _ hmem _ (List.mem_map.2 ⟨x0, ?_, rfl⟩) rfl
            rw [List.drop_eq_getElem_cons hil, hxe]
            exact List.mem_cons_self
        have HP : Hid (NewPost w l (.returned (.tuple #[.pointer none, .int .i64 13])) w8) := Lib.hid ⟨hbel, .inr ⟨by rw [hdup]; decide, by rw [hdup]⟩⟩
        clear HLK HST2 HB2 hbel hdup hcz H00 HI HBT
        go_wp2_with fail
        go_ret2
        exact HP.out
      · obtain rfl : bt = false := by simpa using hb
        have HNK : Hid (x0.f0 ∉ (M1f l i).map (·.1)) := by
          have e := HBT.out.symm
          cases hm : mget (M1f l i) x0.f0 with
          | none => exact Lib.hid (mget_none.1 hm)
          | some v => rw [hm] at e; cases e
        clear hb HLK HST2 HB2 HBT
        go_upto_region 10 with fail
        obtain ⟨wd, hwd⟩ : ∃ wd, wd = w8.drew := ⟨_, rfl⟩
        have hbd : Below w8.heap.size w8 wd := by rw [hwd]; exact (Below.refl _ _).drew
        have HN := Lib.hid (HN7.out.later hbd)
        have HB := Lib.hid (HB7.out.below' hbd)
        have HSL : Hid (Sl wd (fun b => b < w.heap.size) 1 (.slice A3 x0.f3.length c3) x0.f3.length (strs x0.f3)) := Lib.hid (HSLA.out.agree (fun q hq => (HN.out.bel.block q hq).trans (HNA.out.bel.block q hq).symm))
        clear hbd HN7 HB7
        try simp only [Act.put, List.setIfInBounds_toArray, List.set_cons_zero, List.set_cons_succ]
        obtain ⟨Inv, hInv⟩ : ∃ Inv : Done → World → Prop, Inv = Chain2 8 9 (fun wI => wI = wd) (fun x wI => ∃ A4 c4, x = .slice A4 (SU x0.f3).length c4 ∧ wI.ownsRow 0 9 1 x (SU x0.f3).length (strs (SU x0.f3)) ∧ (∀ q, x.ownBlock = some q → wd.heap.size ≤ q) ∧ Below wd.heap.size wd wI) (fun x y wI => NewSt w wI (fun q => q = a6) g r b e d (M1f l (i + 1)) [] (Mdf l i) [] ∧ Blk wI a6 33 [.string x0.f0, .string x0.f1, .string x0.f2, .slice A3 x0.f3.length c3]) := ⟨_, rfl⟩
        have HI := Lib.hid hInv
        have hcz : Hid (∀ τ wI, Inv τ wI → τ 9 = none → wI.cell? ⟨g, 0, none⟩ = some (.map (some r)) ∧ g < wI.heap.size ∧ wI.cell? ⟨a6, 0, none⟩ = some (.string x0.f0) ∧ wI.cell? ⟨a6, 3, none⟩ = some (.slice A3 x0.f3.length c3) ∧ a6 < wI.heap.size) := by
          intro τ wI h h9
          rw [hInv] at h
          have key : ∀ wI, Below wd.heap.size wd wI → wI.cell? ⟨g, 0, none⟩ = some (.map (some r)) ∧ g < wI.heap.size ∧ wI.cell? ⟨a6, 0, none⟩ = some (.string x0.f0) ∧ wI.cell? ⟨a6, 3, none⟩ = some (.slice A3 x0.f3.length c3) ∧ a6 < wI.heap.size := by
            intro wI hb
            have h1 := (HN.out.later hb).cells
            have h2 := HB.out.below' hb
            exact ⟨h1.1, h1.2.2.2.2, by rw [h2.cell]; rfl, by rw [h2.cell]; rfl, h2.lt⟩
          rcases h.upto1 h9 with rfl | ⟨x, _, _, _, _, _, hb⟩
          · exact key _ (Below.refl _ _)
          · exact key _ hb
        have H00 : Hid (Inv Done.none w8.drew) := by rw [hInv]; exact Chain2.start hwd.symm
        clear hInv hwd
        refine wp_region_inv (by kernel_rfl) [⟨0, false, [], [9]⟩, ⟨1, false, [], [9]⟩, ⟨2, false, [], [9]⟩, ⟨3, false, [], [9]⟩, ⟨4, false, [], [9]⟩, ⟨5, false, [], [9]⟩, ⟨6, false, [], [8, 9]⟩, ⟨7, false, [], [8, 9]⟩, ⟨8, true, [], [9]⟩, ⟨9, true, [8], []⟩] (by kernel_rfl) Inv (fun _ _ => True) (fun _ => ⟨undef, trivial⟩) H00.out ?_
        iterate 8 (apply WpI.pure; (simp only [List.getElem?_toArray, List.getElem?_cons_succ, List.getElem?_cons_zero]; rfl); (intro τ wI hA hI; obtain ⟨f0, f1, f2, f3, f4⟩ := hcz.out τ wI hI (hA.2 9 (by decide)); go_simp; exact ⟨hI, Is.rfl'⟩); simp only [Act.put, List.setIfInBounds_toArray, List.set_cons_zero, List.set_cons_succ])
        apply WpI.effect; (simp only [List.getElem?_toArray, List.getElem?_cons_succ, List.getElem?_cons_zero]; rfl)
        · intro τ wI hA hn hI
          have h0 := hI
          rw [HI.out] at h0
          have h9 : τ 9 = none := hA.2 9 (by decide)
          have hK := h0.at0 hn h9
          have HT := Lib.hid (And.intro True.intro (And.intro h9 (True.intro)))
          clear hA hn hI h0 h9
          subst hK
          go_simp
          refine (sorted_ok _ _ A3 x0.f3.length c3 x0.f3 HSL.out (HX.out)).mono ?_
          rintro e w3 ⟨A4, c4, rfl, o4, f4, b4⟩
          refine ⟨_, rfl, ?_⟩
          rw [HI.out]
          exact Chain2.put1 HT.out.2.1 (by decide) ⟨A4, c4, rfl, o4, f4, b4⟩
        intro v8 hv8
        simp only [Act.put, List.setIfInBounds_toArray, List.set_cons_zero, List.set_cons_succ]
        clear hv8
        apply WpI.effect; (simp only [List.getElem?_toArray, List.getElem?_cons_succ, List.getElem?_cons_zero]; rfl)
        · intro τ wI hA hn hI
          have h0 := hI
          rw [HI.out] at h0
          have h8 : τ 8 = some v8 := hA.1 8 (by decide)
          have hK := h0.at1 h8 hn
          have HT := Lib.hid (And.intro True.intro (And.intro h8 (True.intro)))
          clear hA hn hI h0 h8
          obtain ⟨A5, c5, rfl, o5, f5, b5⟩ := hK
          obtain ⟨w4, hrun, hn4, hag⟩ := HN.out.putRefs b5 x0.f0 o5 f5
          rw [M1f_snoc HX0.out HNK.out] at hn4
          have HN4 := Lib.hid (And.intro hn4 (HB.out.agree hag rfl))
          clear o5 f5 b5 hn4 hag
          go_simp
          rw [HI.out]
          exact Chain2.put2 HT.out.2.1 (by decide) HN4.out
        intro v9 hv9
        simp only [Act.put, List.setIfInBounds_toArray, List.set_cons_zero, List.set_cons_succ]
        clear hv9
        refine WpI.done ?_
        intro w9 hI
        rw [HI.out] at hI
        have hE := hI.end_ (by decide)
        have HN9 := Lib.hid hE
        clear hE hI HN HB HSL hcz H00 HI
        go_upto_region 11 with fail
        obtain ⟨wd, hwd⟩ : ∃ wd, wd = w9.drew := ⟨_, rfl⟩
        have hbd : Below w9.heap.size w9 wd := by rw [hwd]; exact (Below.refl _ _).drew
        have HN := Lib.hid (HN9.out.1.later hbd)
        have HB := Lib.hid (HN9.out.2.below' hbd)
        obtain ⟨vD, AD, cD, rfl, hlk, how, hco⟩ := HN.out.toDer x0.f2
        have HLK2 := Lib.hid (hlk _ (Below.refl _ _))
        have HLK3 := Lib.hid (hlk (wd.alloc (.cells #[.string x0.f0] 9)) ((Below.refl _ _).alloc (Nat.le_refl _) _))
        have HOW := Lib.hid how
        have HCO := Lib.hid hco
        have HLE := Lib.hid (Nat.le_trans (Mdf_le l i x0.f2) (show i ≤ 4096 by omega))
        clear hbd HN9 hlk how hco
        try simp only [Act.put, List.setIfInBounds_toArray, List.set_cons_zero, List.set_cons_succ]
        obtain ⟨Inv, hInv⟩ : ∃ Inv : Done → World → Prop, Inv = Chain3 15 16 17 (fun wI => wI = wd) (fun x wI => x = .slice (some ⟨wd.heap.size, 0, none⟩) 1 1 ∧ wI = wd.alloc (.cells #[.string x0.f0] 9)) (fun x y wI => ∃ A4 c4, y = .slice A4 ((mgetD (Mdf l i) x0.f2).length + 1) c4 ∧ wI.ownsRow 0 9 1 y ((mgetD (Mdf l i) x0.f2).length + 1) (strs (mgetD (Mdf l i) x0.f2) ++ [.string x0.f0]) ∧ Mod (fun q => (Value.slice AD (mgetD (Mdf l i) x0.f2).length cD).ownBlock = some q) wd wI ∧ (∀ q, y.ownBlock = some q → (Value.slice AD (mgetD (Mdf l i) x0.f2).length cD).ownBlock = some q ∨ wd.heap.size ≤ q)) (fun x y z wI => NewSt w wI (fun q => q = a6) g r b e d (M1f l (i + 1)) [] (Mdf l (i + 1)) []) := ⟨_, rfl⟩
        have HI := Lib.hid hInv
        have hcz : Hid (∀ τ wI, Inv τ wI → τ 17 = none → wI.cell? ⟨g, 3, none⟩ = some (.map (some d)) ∧ g < wI.heap.size ∧ wI.cell? ⟨a6, 0, none⟩ = some (.string x0.f0) ∧ wI.cell? ⟨a6, 2, none⟩ = some (.string x0.f2) ∧ a6 < wI.heap.size) := by
          intro τ wI h h9
          rw [hInv] at h
          have key : ∀ wI, Blk wI g 42 [.map (some r), .map (some b), .map (some e), .map (some d)] → Blk wI a6 33 [.string x0.f0, .string x0.f1, .string x0.f2, .slice A3 x0.f3.length c3] → wI.cell? ⟨g, 3, none⟩ = some (.map (some d)) ∧ g < wI.heap.size ∧ wI.cell? ⟨a6, 0, none⟩ = some (.string x0.f0) ∧ wI.cell? ⟨a6, 2, none⟩ = some (.string x0.f2) ∧ a6 < wI.heap.size :=
            fun wI h1 h2 => ⟨by rw [h1.cell]; rfl, h1.lt, by rw [h2.cell]; rfl, by rw [h2.cell]; rfl, h2.lt⟩
          rcases h.upto2 h9 with rfl | ⟨x, rfl, rfl⟩ | ⟨x, y, A4, c4, rfl, o1, o2, o3⟩
          · exact key _ HN.out.blk HB.out
          · exact key _ (HN.out.blk.alloc _) (HB.out.alloc _)
          · exact key _ (HN.out.blk.mod o2 (fun h => own_blk_ne HOW.out HN.out.blk (by decide) h)) (HB.out.mod o2 (fun h => own_blk_ne HOW.out HB.out (by decide) h))
        have H00 : Hid (Inv Done.none w9.drew) := by rw [hInv]; exact Chain3.start hwd.symm
        clear hInv hwd
        refine wp_region_inv (by kernel_rfl) [⟨0, false, [], [17]⟩, ⟨1, false, [], [17]⟩, ⟨2, false, [], [17]⟩, ⟨3, false, [], [17]⟩, ⟨4, false, [], [17]⟩, ⟨5, false, [], [17]⟩, ⟨6, false, [], [16, 17]⟩, ⟨7, false, [], [16, 17]⟩, ⟨8, false, [], [16, 17]⟩, ⟨9, false, [], [16, 17]⟩, ⟨10, false, [], [16, 17]⟩, ⟨11, false, [], [16, 17]⟩, ⟨12, false, [], [16, 17]⟩, ⟨13, false, [], [15, 16, 17]⟩, ⟨14, false, [], [15, 16, 17]⟩, ⟨15, true, [], [16, 17]⟩, ⟨16, true, [15], [17]⟩, ⟨17, true, [15, 16], []⟩] (by kernel_rfl) Inv (fun _ _ => True) (fun _ => ⟨undef, trivial⟩) H00.out ?_
        iterate 12 (apply WpI.pure; (simp only [List.getElem?_toArray, List.getElem?_cons_succ, List.getElem?_cons_zero]; rfl); (intro τ wI hA hI; obtain ⟨f0, f1, f2, f3, f4⟩ := hcz.out τ wI hI (hA.2 17 (by decide)); go_simp; exact ⟨hI, Is.rfl'⟩); simp only [Act.put, List.setIfInBounds_toArray, List.set_cons_zero, List.set_cons_succ])
        (apply WpI.pure; (simp only [List.getElem?_toArray, List.getElem?_cons_succ, List.getElem?_cons_zero]; rfl); (intro τ wI hA hI; obtain ⟨f0, f1, f2, f3, f4⟩ := hcz.out τ wI hI (hA.2 17 (by decide)); have h0 := hI; rw [HI.out] at h0; have q4 : (Instr.lookup 39 (.map (some d)) (.string x0.f2) false).run Try.prog wI = .ok (.slice AD (mgetD (Mdf l i) x0.f2).length cD) wI := (by rcases h0.upto1 (hA.2 16 (by decide)) with h1 | ⟨x, _, h1⟩; (· rw [h1]; exact HLK2.out); (· rw [h1]; exact HLK3.out)); clear h0; go_simp; exact ⟨hI, Is.rfl'⟩); simp only [Act.put, List.setIfInBounds_toArray, List.set_cons_zero, List.set_cons_succ])
        iterate 2 (apply WpI.pure; (simp only [List.getElem?_toArray, List.getElem?_cons_succ, List.getElem?_cons_zero]; rfl); (intro τ wI hA hI; obtain ⟨f0, f1, f2, f3, f4⟩ := hcz.out τ wI hI (hA.2 17 (by decide)); go_simp; exact ⟨hI, Is.rfl'⟩); simp only [Act.put, List.setIfInBounds_toArray, List.set_cons_zero, List.set_cons_succ])
        apply WpI.effect; (simp only [List.getElem?_toArray, List.getElem?_cons_succ, List.getElem?_cons_zero]; rfl)
        · intro τ wI hA hn hI
          have h0 := hI
          rw [HI.out] at h0
          have h16 : τ 16 = none := hA.2 16 (by decide)
          have h17 : τ 17 = none := hA.2 17 (by decide)
          have hK := h0.at0 hn h16 h17
          have HT := Lib.hid (And.intro True.intro (And.intro h16 ( And.intro h17 (True.intro))))
          clear hA hn hI h0 h16 h17
          subst hK
          go_simp
          rw [HI.out]
          exact Chain3.put1 HT.out.2.1 (by decide) HT.out.2.2.1 (by decide) ⟨rfl, rfl⟩
        intro v15 hv15
        simp only [Act.put, List.setIfInBounds_toArray, List.set_cons_zero, List.set_cons_succ]
        clear hv15
        apply WpI.effect; (simp only [List.getElem?_toArray, List.getElem?_cons_succ, List.getElem?_cons_zero]; rfl)
        · intro τ wI hA hn hI
          have h0 := hI
          rw [HI.out] at h0
          have h15 : τ 15 = some v15 := hA.1 15 (by decide)
          have h17 : τ 17 = none := hA.2 17 (by decide)
          have hK := h0.at1 h15 hn h17
          have HT := Lib.hid (And.intro True.intro (And.intro h15 ( And.intro h17 (True.intro))))
          clear hA hn hI h0 h15 h17
          obtain ⟨rfl, rfl⟩ := hK
          refine runs_app rfl (.tmp 60) (.tmp 63) 23 rfl 9 (.string ⟨#[]⟩) 1 16 Try.underlying23 infoStr rfl (by omega) (by omega) (.slice AD (mgetD (Mdf l i) x0.f2).length cD) (mgetD (Mdf l i) x0.f2).length (strs (mgetD (Mdf l i) x0.f2)) rfl (HOW.out.alloc _) (fun q => q = wd.heap.size) _ 1 [.string x0.f0] rfl
            (Sl.one wd 9 _) (by simp [Value.oneCell']) (by have := HLE.out; omega) ?_
          intro A4 c4 w4 o1 o2 o3 _
          refine ⟨trivial, ?_⟩
          rw [HI.out]
          exact Chain3.put2 HT.out.2.1 (by decide) HT.out.2.2.1 (by decide) ⟨A4, c4, rfl, o1, ((Mod.refl _ _).alloc _).trans o2 (fun _ _ h => h), fun q hq => o3.elim (fun e => .inl (by rw [← e]; exact hq)) (fun e => .inr (by rw [e] at hq; simp at hq; omega))⟩
        intro v16 hv16
        simp only [Act.put, List.setIfInBounds_toArray, List.set_cons_zero, List.set_cons_succ]
        clear hv16
        apply WpI.effect; (simp only [List.getElem?_toArray, List.getElem?_cons_succ, List.getElem?_cons_zero]; rfl)
        · intro τ wI hA hn hI
          have h0 := hI
          rw [HI.out] at h0
          have h15 : τ 15 = some v15 := hA.1 15 (by decide)
          have h16 : τ 16 = some v16 := hA.1 16 (by decide)
          have hK := h0.at2 h15 h16 hn
          have HT := Lib.hid (And.intro True.intro (And.intro h15 ( And.intro h16 (True.intro))))
          clear hA hn hI h0 h15 h16
          obtain ⟨A4, c4, rfl, o1, o2, o3⟩ := hK
          obtain ⟨w4, hrun, hn4, hag⟩ := HCO.out _ _ x0.f0 o2 o1 o3
          rw [Mdf_snoc HX0.out] at hn4
          have hb4 : Blk _ a6 33 [.string x0.f0, .string x0.f1, .string x0.f2, .slice A3 x0.f3.length c3] := HB.out.mod o2 (fun h => own_blk_ne HOW.out HB.out (by decide) h)
          have hg4 : Blk _ g 42 [.map (some r), .map (some b), .map (some e), .map (some d)] := HN.out.blk.mod o2 (fun h => own_blk_ne HOW.out HN.out.blk (by decide) h)
          have q1 := hg4.cell 3
          have HN4 := Lib.hid hn4
          clear o1 o2 o3 hn4 hag hb4 hg4 q1
          go_simp
          rw [HI.out]
          exact Chain3.put3 HT.out.2.1 (by decide) HT.out.2.2.1 (by decide) HN4.out
        intro v17 hv17
        simp only [Act.put, List.setIfInBounds_toArray, List.set_cons_zero, List.set_cons_succ]
        clear hv17
        refine WpI.done ?_
        intro w10 hI
        rw [HI.out] at hI
        have hE := hI.end_ (by decide) (by decide) (by decide)
        have HN10 := Lib.hid (hE.weaken (Y := fun _ => False) (fun _ h => h.elim))
        have HND : Hid (((l.take (i + 1)).map (·.f0)).Nodup) := by
          obtain ⟨hil, hxe⟩ := List.getElem?_eq_some_iff.1 HX0.out
          rw [List.take_succ_eq_append_getElem hil, List.map_append, hxe, List.nodup_append]
          refine Lib.hid ⟨hnd.out, by simp, fun a ha q hq => ?_⟩
          simp only [List.map_cons, List.map_nil, List.mem_singleton] at hq
          subst hq
          rintro rfl
          exact HNK.out (by simpa [M1f, Function.comp_def] using ha)
        clear hE hI HN HB hcz H00 HI HLK2 HLK3 HOW HCO HLE HNK
        go_wp2_with fail
        go_roundg (n - (i + 1))
        case measure => omega
        case rel => exact ⟨i + 1, by go_num, by omega, rfl, HN10, HND⟩
    · obtain rfl : i = n := by omega
      clear hi hlt
      have hne : (l.map (·.f0)).Nodup := by
        have := hnd.out
        rwa [List.take_of_length_le (by have := HI0.out.1; omega)] at this
      have HNE := Lib.hid hne
      have HST : Hid (NewSt w wr (fun _ => False) g r b e d (M1f l l.length) [] (Mdf l l.length) []) := by rw [HI0.out.1]; exact hst
      obtain ⟨D1, hD1⟩ := HST.out.refsMap
      have hrows := (HST.out.rows hD1)
      have HRW := Lib.hid (And.intro hrows.1 hrows.2.1)
      obtain ⟨w2, hrun, hit, hb2⟩ := hD1.range Try.underlying39
      obtain ⟨it, hit0⟩ : ∃ it, it = wr.heap.size := ⟨_, rfl⟩
      rw [← hit0] at hrun hit
      have HN2 : Hid (NewSt w w2 (fun q => q = it) g r b e d (M1f l l.length) (backOf (kk l [])) (Mdf l l.length) (edgeOf (kk l []))) := Lib.hid ((HST.out.keep hb2).weaken (fun x hx => .inr ⟨by omega, by rw [hx]; exact hit.lt⟩))
      have HIT0 := Lib.hid (show w.heap.size ≤ it by rw [hit0]; exact HST.out.bel.size)
      have HIT := Lib.hid hit
      have q0 := HST.out.cells.1
      have q1 := HST.out.cells.2.2.2.2
      clear hnd hst hne hrows hD1 hit hb2 hit0 HST
      go_wp2_with fail
      go_loopg [] (D1.length + 1) (fun kq wr => ∃ (done : List (ByteArray × Value)), kq = D1.length + 1 - done.length ∧ done.length ≤ D1.length ∧ Hid (Iter KS wr it r D1 done) ∧ Hid (NewSt w wr (fun q => q = it) g r b e d (M1f l l.length) (backOf (kk l done)) (Mdf l l.length) (edgeOf (kk l done))) ∧ Hid ((∀ a, (mgetD (backOf (kk l done)) a).length ≤ done.length * 1000) ∧ ∀ x ∈ kk l done, ∀ t ∈ x.2, t ∈ l.map (·.f0)))
      case atStart => exact ⟨[], rfl, Nat.zero_le _, HIT, HN2, Lib.hid ⟨fun a => by simp [kk, backOf, mgetD, mget], by simp [kk]⟩⟩
      case round =>
        clear HIT HN2 q0 q1
        obtain ⟨done, rfl, hdl, hi, hst, hbd⟩ := hrel
        rcases hi.out.next 0 with ⟨hall, hnx⟩ | ⟨x, w3, hnx, hen, hi2, hxD, hmod⟩
        · have hpm := hi.out.perm hall
          have HP : Hid (NewPost w l (.returned (.tuple #[.pointer (some ⟨g, 0, none⟩), .int .i64 0])) wr) := by
            refine Lib.hid ⟨hst.out.bel, .inl ⟨?_, g, rfl, ?_, r, b, e, d, kk l done, hst.out.weaken (fun _ h => h.elim), ?_⟩⟩
            · unfold newErr
              rw [if_neg (by have := HI0.out.1; omega), if_neg (fun h => h HNE.out), if_neg]
              rintro ⟨x, hx, t, ht, hnt⟩
              refine hnt ?_
              have hkp : (kk l done).Perm (M1f l l.length) := by rw [← kk_all HNE.out HRW.out.1]; exact hpm.map _
              exact hbd.out.2 (x.f0, SU x.f3) (hkp.mem_iff.2 (mget_mem (M1f_get HNE.out hx))) t (SU_mem.2 ht)
            · have h := hst.out
              obtain ⟨⟨_, _, _, _, _, _, _, hlo, _⟩, _⟩ := h
              exact hlo g (.inr (.inr (.inr (.inr rfl))))
            · rw [← kk_all HNE.out HRW.out.1]
              exact hpm.map _
          clear hall hpm hst hbd hi
          go_wp2_with fail
          go_ret2
          exact HP.out
        · have HI2 := Lib.hid hi2
          have HN3 := Lib.hid (hst.out.modX hmod (fun q hq => ⟨hq, by rw [hq]; exact HIT0.out⟩))
          have hd1 : done.length + 1 ≤ D1.length := by have := hi2.len; simpa using this
          obtain ⟨p, v⟩ := x
          obtain ⟨Ax, cx, hv, hown⟩ := (HN3.out.rows hi2.map).2.2 (p, v) hxD
          obtain ⟨x0, hx0, hxp⟩ := M1f_mem (l := l) (p := p) (by rw [← HRW.out.1]; exact List.mem_map.2 ⟨(p, v), hxD, rfl⟩)
          obtain ⟨lp, hlp⟩ : ∃ lp, lp = mgetD (M1f l l.length) p := ⟨_, rfl⟩
          have hlx : lp = SU x0.f3 := by rw [hlp, ← hxp, mgetD, M1f_get HNE.out hx0]; rfl
          have hl1000 : lp.length ≤ 1000 := by rw [hlx]; exact Nat.le_trans (SU_le _) (HR.out x0 hx0)
          have hv2 : v = .slice Ax lp.length cx := by rw [hlp]; exact hv
          subst hv2
          have kp : KS.key p = .string p := rfl
          simp only [kp] at hnx hen
          clear kp
          have HXD := Lib.hid hxD
          have HLP := Lib.hid hlp
          have HX0 := Lib.hid (And.intro hx0 (And.intro hxp hlx))
          have HBD := hbd
          clear hst hi hmod hi2 hxD hown hv hlp hx0 hxp hlx hbd
          go_wp2_with fail
          go_loopg [78] lp.length (fun kq iv wr => ∃ (j : Nat), iv = .int .i64 j ∧ j ≤ lp.length ∧ kq = lp.length - j ∧ Hid (Iter KS wr it r D1 (done ++ [(p, .slice Ax lp.length cx)])) ∧ Hid (NewSt w wr (fun q => q = it) g r b e d (M1f l l.length) (backJ p (backOf (kk l done)) (lp.take j)) (Mdf l l.length) (edgeJ p (edgeOf (kk l done)) (lp.take j))) ∧ Hid ((∀ a, (mgetD (backJ p (backOf (kk l done)) (lp.take j)) a).length ≤ done.length * 1000 + j) ∧ ∀ t ∈ lp.take j, t ∈ l.map (·.f0)))
          case atStart => exact ⟨0, rfl, Nat.zero_le _, rfl, HI2, HN3, Lib.hid ⟨HBD.out.1, by simp⟩⟩
          case round =>
            clear HI2 HN3 hnx hen
            obtain ⟨j, rfl, hj, rfl, hi, hst, hbj⟩ := hrel
            by_cases hjl : j < lp.length
            · obtain ⟨A', c', hv, hown⟩ := (hst.out.rows hi.out.map).2.2 (p, .slice Ax lp.length cx) HXD.out
              simp only [← HLP.out] at hv hown
              obtain ⟨bx, capx, hve, _, _⟩ := hown.form (by omega)
              simp only [Value.slice.injEq] at hve
              obtain ⟨rfl, _, rfl⟩ := hve
              obtain ⟨t0, ht0⟩ : ∃ t0, lp[j]? = some t0 := ⟨_, List.getElem?_eq_getElem hjl⟩
              have hc0 : wr.cell? ⟨bx, j, none⟩ = some (.string t0) := by
                have := hown.cells rfl j _ (strs_get ht0)
                rwa [add_lit0, Nat.zero_add] at this
              have HT0 := Lib.hid ht0
              obtain ⟨bt, hbt⟩ : ∃ bt, bt = (mget (M1f l l.length) t0).isSome := ⟨_, rfl⟩
              have hhas := hst.out.has t0
              rw [← hbt] at hhas
              have HHAS := Lib.hid hhas
              have HBT := Lib.hid hbt
              clear hv hown ht0 hhas hbt
              go_wp2_with fail
              refine HHAS.out.mono ?_
              rintro e w' ⟨rfl, rfl⟩
              by_cases hb : bt = true
              · subst hb
                have hin : t0 ∈ l.map (·.f0) := by
                  rw [← M1f_keys]
                  have e := HBT.out.symm
                  cases hm : mget (M1f l l.length) t0 with
                  | none => rw [hm] at e; cases e
                  | some v => exact List.mem_map.2 ⟨(t0, v), mget_mem hm, rfl⟩
                have HIN := Lib.hid hin
                obtain ⟨w4, hrun4, hn4, hag4⟩ := hst.out.putEdge p t0
                rw [← edgeJ_succ p _ HT0.out] at hn4
                have HN4 := Lib.hid hn4
                have HI4 := Lib.hid (hi.out.agree_ (hag4 it (.inl rfl)) (hag4 r (.inr rfl)))
                have q2 := hst.out.cells.2.2.1
                have q3 := hst.out.cells.2.2.2.2
                clear hst hi hn4 hag4 HHAS HBT hin hc0
                go_upto_region 22 with fail
                obtain ⟨wd, hwd⟩ : ∃ wd, wd = w4.drew := ⟨_, rfl⟩
                have hbd : Below w4.heap.size w4 wd := by rw [hwd]; exact (Below.refl _ _).drew
                have HN := Lib.hid (HN4.out.later hbd)
                have HIT := Lib.hid (HI4.out.below hbd)
                obtain ⟨vD, AD, cD, rfl, hlk, how, hco⟩ := HN.out.toBack t0
                have HLK2 := Lib.hid (hlk _ (Below.refl _ _))
                have HLK3 := Lib.hid (hlk (wd.alloc (.cells #[.string p] 9)) ((Below.refl _ _).alloc (Nat.le_refl _) _))
                have HOW := Lib.hid how
                have HCO := Lib.hid hco
                have HLE := Lib.hid (show (mgetD (backJ p (backOf (kk l done)) (lp.take j)) t0).length ≤ 8000000 by have h1 := hbj.out.1 t0; have h2 : D1.length ≤ 4096 := (by have := congrArg List.length HRW.out.1; rw [M1f_keys, List.length_map, List.length_map] at this; have := HI0.out.1; omega); omega)
                clear hbd hlk how hco HN4 HI4 q2 q3
                try simp only [Act.put, List.setIfInBounds_toArray, List.set_cons_zero, List.set_cons_succ]
                obtain ⟨Inv, hInv⟩ : ∃ Inv : Done → World → Prop, Inv = Chain3 12 13 14 (fun wI => wI = wd) (fun x wI => x = .slice (some ⟨wd.heap.size, 0, none⟩) 1 1 ∧ wI = wd.alloc (.cells #[.string p] 9)) (fun x y wI => ∃ A4 c4, y = .slice A4 ((mgetD (backJ p (backOf (kk l done)) (lp.take j)) t0).length + 1) c4 ∧ wI.ownsRow 0 9 1 y ((mgetD (backJ p (backOf (kk l done)) (lp.take j)) t0).length + 1) (strs (mgetD (backJ p (backOf (kk l done)) (lp.take j)) t0) ++ [.string p]) ∧ Mod (fun q => (Value.slice AD (mgetD (backJ p (backOf (kk l done)) (lp.take j)) t0).length cD).ownBlock = some q) wd wI ∧ (∀ q, y.ownBlock = some q → (Value.slice AD (mgetD (backJ p (backOf (kk l done)) (lp.take j)) t0).length cD).ownBlock = some q ∨ wd.heap.size ≤ q)) (fun x y z wI => NewSt w wI (fun q => q = it) g r b e d (M1f l l.length) (backJ p (backOf (kk l done)) (lp.take (j + 1))) (Mdf l l.length) (edgeJ p (edgeOf (kk l done)) (lp.take (j + 1))) ∧ Iter KS wI it r D1 (done ++ [(p, .slice (some ⟨bx, 0, none⟩) lp.length cx)])) := ⟨_, rfl⟩
                have HI := Lib.hid hInv
                have hcz : Hid (∀ τ wI, Inv τ wI → τ 14 = none → wI.cell? ⟨g, 1, none⟩ = some (.map (some b)) ∧ g < wI.heap.size) := by
                  intro τ wI h h9
                  rw [hInv] at h
                  have key : ∀ wI, Blk wI g 42 [.map (some r), .map (some b), .map (some e), .map (some d)] → wI.cell? ⟨g, 1, none⟩ = some (.map (some b)) ∧ g < wI.heap.size :=
                    fun wI h1 => ⟨by rw [h1.cell]; rfl, h1.lt⟩
                  rcases h.upto2 h9 with rfl | ⟨x, rfl, rfl⟩ | ⟨x, y, A4, c4, rfl, o1, o2, o3⟩
                  · exact key _ HN.out.blk
                  · exact key _ (HN.out.blk.alloc _)
                  · exact key _ (HN.out.blk.mod o2 (fun h => own_blk_ne HOW.out HN.out.blk (by decide) h))
                have H00 : Hid (Inv Done.none w4.drew) := by rw [hInv]; exact Chain3.start hwd.symm
                clear hInv hwd
                refine wp_region_inv (by kernel_rfl) [⟨0, false, [], [14]⟩, ⟨1, false, [], [14]⟩, ⟨2, false, [], [14]⟩, ⟨3, false, [], [14]⟩, ⟨4, false, [], [14]⟩, ⟨5, false, [], [13, 14]⟩, ⟨6, false, [], [13, 14]⟩, ⟨7, false, [], [13, 14]⟩, ⟨8, false, [], [13, 14]⟩, ⟨9, false, [], [13, 14]⟩, ⟨10, false, [], [13, 14]⟩, ⟨11, false, [], [12, 13, 14]⟩, ⟨12, true, [], [13, 14]⟩, ⟨13, true, [12], [14]⟩, ⟨14, true, [12, 13], []⟩] (by kernel_rfl) Inv (fun _ _ => True) (fun _ => ⟨undef, trivial⟩) H00.out ?_
                iterate 10 (apply WpI.pure; (simp only [List.getElem?_toArray, List.getElem?_cons_succ, List.getElem?_cons_zero]; rfl); (intro τ wI hA hI; obtain ⟨f0, f1⟩ := hcz.out τ wI hI (hA.2 14 (by decide)); go_simp; exact ⟨hI, Is.rfl'⟩); simp only [Act.put, List.setIfInBounds_toArray, List.set_cons_zero, List.set_cons_succ])
                (apply WpI.pure; (simp only [List.getElem?_toArray, List.getElem?_cons_succ, List.getElem?_cons_zero]; rfl); (intro τ wI hA hI; obtain ⟨f0, f1⟩ := hcz.out τ wI hI (hA.2 14 (by decide)); have h0 := hI; rw [HI.out] at h0; have q4 : (Instr.lookup 39 (.map (some b)) (.string t0) false).run Try.prog wI = .ok (.slice AD (mgetD (backJ p (backOf (kk l done)) (lp.take j)) t0).length cD) wI := (by rcases h0.upto1 (hA.2 13 (by decide)) with h1 | ⟨x, _, h1⟩; (· rw [h1]; exact HLK2.out); (· rw [h1]; exact HLK3.out)); clear h0; go_simp; exact ⟨hI, Is.rfl'⟩); simp only [Act.put, List.setIfInBounds_toArray, List.set_cons_zero, List.set_cons_succ])
                (apply WpI.pure; (simp only [List.getElem?_toArray, List.getElem?_cons_succ, List.getElem?_cons_zero]; rfl); (intro τ wI hA hI; obtain ⟨f0, f1⟩ := hcz.out τ wI hI (hA.2 14 (by decide)); go_simp; exact ⟨hI, Is.rfl'⟩); simp only [Act.put, List.setIfInBounds_toArray, List.set_cons_zero, List.set_cons_succ])
                apply WpI.effect; (simp only [List.getElem?_toArray, List.getElem?_cons_succ, List.getElem?_cons_zero]; rfl)
                · intro τ wI hA hn hI
                  have h0 := hI
                  rw [HI.out] at h0
                  have h13 : τ 13 = none := hA.2 13 (by decide)
                  have h14 : τ 14 = none := hA.2 14 (by decide)
                  have hK := h0.at0 hn h13 h14
                  have HT := Lib.hid (And.intro True.intro (And.intro h13 ( And.intro h14 (True.intro))))
                  clear hA hn hI h0 h13 h14
                  subst hK
                  go_simp
                  rw [HI.out]
                  exact Chain3.put1 HT.out.2.1 (by decide) HT.out.2.2.1 (by decide) ⟨rfl, rfl⟩
                intro v12 hv12
                simp only [Act.put, List.setIfInBounds_toArray, List.set_cons_zero, List.set_cons_succ]
                clear hv12
                apply WpI.effect; (simp only [List.getElem?_toArray, List.getElem?_cons_succ, List.getElem?_cons_zero]; rfl)
                · intro τ wI hA hn hI
                  have h0 := hI
                  rw [HI.out] at h0
                  have h12 : τ 12 = some v12 := hA.1 12 (by decide)
                  have h14 : τ 14 = none := hA.2 14 (by decide)
                  have hK := h0.at1 h12 hn h14
                  have HT := Lib.hid (And.intro True.intro (And.intro h12 ( And.intro h14 (True.intro))))
                  clear hA hn hI h0 h12 h14
                  obtain ⟨rfl, rfl⟩ := hK
                  refine runs_app rfl (.tmp 103) (.tmp 105) 23 rfl 9 (.string ⟨#[]⟩) 1 16 Try.underlying23 infoStr rfl (by omega) (by omega) (.slice AD (mgetD (backJ p (backOf (kk l done)) (lp.take j)) t0).length cD) (mgetD (backJ p (backOf (kk l done)) (lp.take j)) t0).length (strs (mgetD (backJ p (backOf (kk l done)) (lp.take j)) t0)) rfl (HOW.out.alloc _) (fun q => q = wd.heap.size) _ 1 [.string p] rfl
                    (Sl.one wd 9 _) (by simp [Value.oneCell']) (by have := HLE.out; omega) ?_
                  intro A4 c4 w4 o1 o2 o3 _
                  refine ⟨trivial, ?_⟩
                  rw [HI.out]
                  exact Chain3.put2 HT.out.2.1 (by decide) HT.out.2.2.1 (by decide) ⟨A4, c4, rfl, o1, ((Mod.refl _ _).alloc _).trans o2 (fun _ _ h => h), fun q hq => o3.elim (fun e => .inl (by rw [← e]; exact hq)) (fun e => .inr (by rw [e] at hq; simp at hq; omega))⟩
                intro v13 hv13
                simp only [Act.put, List.setIfInBounds_toArray, List.set_cons_zero, List.set_cons_succ]
                clear hv13
                apply WpI.effect; (simp only [List.getElem?_toArray, List.getElem?_cons_succ, List.getElem?_cons_zero]; rfl)
                · intro τ wI hA hn hI
                  have h0 := hI
                  rw [HI.out] at h0
                  have h12 : τ 12 = some v12 := hA.1 12 (by decide)
                  have h13 : τ 13 = some v13 := hA.1 13 (by decide)
                  have hK := h0.at2 h12 h13 hn
                  have HT := Lib.hid (And.intro True.intro (And.intro h12 ( And.intro h13 (True.intro))))
                  clear hA hn hI h0 h12 h13
                  obtain ⟨A4, c4, rfl, o1, o2, o3⟩ := hK
                  obtain ⟨w4, hrun, hn4, hag⟩ := HCO.out _ _ p o2 o1 o3
                  rw [← backJ_succ p _ HT0.out] at hn4
                  have hg4 : Blk _ g 42 [.map (some r), .map (some b), .map (some e), .map (some d)] := HN.out.blk.mod o2 (fun h => own_blk_ne HOW.out HN.out.blk (by decide) h)
                  have q1 := hg4.cell 1
                  have HN4 := Lib.hid (And.intro hn4 (HIT.out.agree_ (hag it (.inl rfl)) (hag r (.inr rfl))))
                  clear o1 o2 o3 hn4 hag hg4 q1
                  go_simp
                  rw [HI.out]
                  exact Chain3.put3 HT.out.2.1 (by decide) HT.out.2.2.1 (by decide) HN4.out
                intro v14 hv14
                simp only [Act.put, List.setIfInBounds_toArray, List.set_cons_zero, List.set_cons_succ]
                clear hv14
                refine WpI.done ?_
                intro w10 hI
                rw [HI.out] at hI
                have hE := hI.end_ (by decide) (by decide) (by decide)
                have HN5 := Lib.hid hE.1
                have HI5 := Lib.hid hE.2
                have HB5 : Hid ((∀ a, (mgetD (backJ p (backOf (kk l done)) (lp.take (j + 1))) a).length ≤ done.length * 1000 + (j + 1)) ∧ ∀ t ∈ lp.take (j + 1), t ∈ l.map (·.f0)) := by
                  obtain ⟨hjl2, hte⟩ := List.getElem?_eq_some_iff.1 HT0.out
                  refine Lib.hid ⟨fun a => ?_, fun t ht => ?_⟩
                  · rw [backJ_succ p _ HT0.out, mgetD_mput]
                    split
                    · rw [List.length_append, List.length_singleton]
                      have := hbj.out.1 t0
                      omega
                    · have := hbj.out.1 a
                      omega
                  · rw [List.take_succ_eq_append_getElem hjl2, hte] at ht
                    rcases List.mem_append.1 ht with ht | ht
                    · exact hbj.out.2 t ht
                    · rw [List.mem_singleton] at ht; rw [ht]; exact HIN.out
                clear hE hI HN HIT hcz H00 HI HLK2 HLK3 HOW HCO HLE hbj HIN
                go_wp2_with fail
                go_roundg (lp.length - (j + 1))
                case measure => omega
                case rel => exact ⟨j + 1, by go_num, by omega, rfl, HI5, HN5, HB5⟩
              · obtain rfl : bt = false := by simpa using hb
                have HP : Hid (NewPost w l (.returned (.tuple #[.pointer none, .int .i64 14])) wr) := by
                  have hnot : t0 ∉ l.map (·.f0) := by
                    rw [← M1f_keys]
                    have e := HBT.out.symm
                    cases hm : mget (M1f l l.length) t0 with
                    | none => exact mget_none.1 hm
                    | some v => rw [hm] at e; cases e
                  have he : newErr l = 14 := by
                    unfold newErr
                    rw [if_neg (by have := HI0.out.1; omega), if_neg (fun h => h HNE.out), if_pos]
                    refine ⟨x0, HX0.out.1, t0, SU_mem.1 ?_, hnot⟩
                    rw [← HX0.out.2.2]
                    exact List.mem_of_getElem? HT0.out
                  exact Lib.hid ⟨hst.out.bel, .inr ⟨by rw [he]; decide, by rw [he]⟩⟩
                clear hst hi HHAS HBT hc0 hb hbj
                go_wp2_with fail
                go_ret2
                exact HP.out
            · obtain rfl : j = lp.length := by omega
              have HN5 := hst
              have HBJ := hbj
              rw [List.take_length] at HN5 HBJ
              have e1 : kk l (done ++ [(p, .slice Ax lp.length cx)]) = kk l done ++ [(p, lp)] := by
                simp only [kk, List.map_append, List.map_cons, List.map_nil]
                rw [HLP.out]
              rw [← backOf_snoc, ← edgeOf_snoc, ← e1] at HN5
              have HB5 : Hid ((∀ a, (mgetD (backOf (kk l (done ++ [(p, .slice Ax lp.length cx)]))) a).length ≤ (done ++ [(p, Value.slice Ax lp.length cx)]).length * 1000) ∧ ∀ x ∈ kk l (done ++ [(p, .slice Ax lp.length cx)]), ∀ t ∈ x.2, t ∈ l.map (·.f0)) := by
                rw [e1, backOf_snoc]
                refine Lib.hid ⟨fun a => Nat.le_trans (HBJ.out.1 a) (by rw [List.length_append, List.length_singleton]; omega), fun x hx t ht => ?_⟩
                rcases List.mem_append.1 hx with hx | hx
                · exact HBD.out.2 x hx t ht
                · rw [List.mem_singleton] at hx; subst hx; exact HBJ.out.2 t ht
              clear hst hbj e1 HBJ HBD
              go_wp2_with fail
              go_roundg (D1.length + 1 - (done ++ [(p, Value.slice Ax lp.length cx)]).length)
              case measure => simp; omega
              case rel => exact ⟨done ++ [(p, .slice Ax lp.length cx)], rfl, by simp; omega, hi, HN5, HB5⟩
end Go.Proofs.Ytcffmpjdonncgaa
