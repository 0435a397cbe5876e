/- WORDS FOR MEMORY: blocks known whole, slices that read as lists, footprints. No program in sight. -/
import Derived.WalkKit
import Derived.WalkSpells
import Derived.WalkLawsBesides
import Derived.Lib.Hide
import Derived.Deep.LoopGhost
import Derived.Deep.RegionLaw
import Derived.Deep.QuietTactic
import Derived.BigQuiet
import Derived.Deep.RegionHeld3
import Derived.StillTailTactics
import Derived.Deep.DeepCutAuto
import Derived.Laws.CopyOwn
import Derived.Deep.AppendLies
namespace Go.Proofs.YteeijjhgdplifaaGreatDoor
open Go.RowKit

/-- A block of cells, known whole. -/
def Blk (w : World) (g : Nat) (t : TypeId) (cs : List Value) : Prop := w.heap[g]? = some (.cells cs.toArray t (0, 0))

/-- Two worlds hold the same in all blocks of F. -/
def Agree (F : Nat → Prop) (w w' : World) : Prop := ∀ b, F b → w'.heap[b]? = w.heap[b]?

/-- What was there and lies outside F is as it was. -/
structure Mod (F : Nat → Prop) (w w' : World) : Prop where
  os : w'.os = w.os
  tape : w'.tape = w.tape
  output : w'.output = w.output
  size : w.heap.size ≤ w'.heap.size
  block : ∀ b, b < w.heap.size → ¬ F b → w'.heap[b]? = w.heap[b]?

theorem Mod.refl (F : Nat → Prop) (w : World) : Mod F w w := ⟨rfl, rfl, rfl, Nat.le_refl _, fun _ _ _ => rfl⟩
theorem Mod.trans {F G : Nat → Prop} {a b c : World} (h : Mod F a b) (k : Mod G b c) (hg : ∀ i, i < a.heap.size → G i → F i) : Mod F a c :=
  ⟨k.os.trans h.os, k.tape.trans h.tape, k.output.trans h.output, Nat.le_trans h.size k.size,
   fun i hi hf => (k.block i (Nat.lt_of_lt_of_le hi h.size) (fun x => hf (hg i hi x))).trans (h.block i hi hf)⟩
theorem Mod.mono {F G : Nat → Prop} {a b : World} (h : Mod F a b) (hg : ∀ i, i < a.heap.size → F i → G i) : Mod G a b :=
  ⟨h.os, h.tape, h.output, h.size, fun i hi hf => h.block i hi (fun x => hf (hg i hi x))⟩
theorem Mod.below {F : Nat → Prop} {a b : World} (h : Mod F a b) {B : Nat} (hB : B ≤ a.heap.size) (hF : ∀ i, F i → B ≤ i) : Below B a b :=
  ⟨h.os, h.tape, h.output, h.size, fun i hi => h.block i (by omega) (fun x => by have := hF i x; omega)⟩
theorem Mod.of_below {F : Nat → Prop} {a b : World} (h : Below a.heap.size a b) : Mod F a b := ⟨h.os, h.tape, h.output, h.size, fun i hi _ => h.block i hi⟩
theorem Mod.of_belowB {F : Nat → Prop} {a b : World} {B : Nat} (h : Below B a b) (hF : ∀ i, i < a.heap.size → B ≤ i → F i) : Mod F a b :=
  ⟨h.os, h.tape, h.output, h.size, fun i hi hf => h.block i (Nat.lt_of_not_le fun x => hf (hF i hi x))⟩
theorem Mod.agree {F G : Nat → Prop} {a b : World} (h : Mod F a b) (hG : ∀ i, G i → i < a.heap.size ∧ ¬ F i) : Agree G a b := fun i hi => h.block i (hG i hi).1 (hG i hi).2
theorem Mod.drew {F : Nat → Prop} {a b : World} (h : Mod F a b) : Mod F a b.drew := ⟨h.os, h.tape, h.output, h.size, h.block⟩
theorem Mod.drewN {F : Nat → Prop} {a b : World} (h : Mod F a b) (n : Nat) : Mod F a (b.drewN n) := ⟨h.os, h.tape, h.output, h.size, h.block⟩
theorem Mod.alloc {F : Nat → Prop} {a b : World} (h : Mod F a b) (o : Obj) : Mod F a (b.alloc o) :=
  h.trans (G := fun _ => False) ⟨rfl, rfl, rfl, by simp, fun i hi _ => Below.heap_alloc _ _ _ hi⟩ (fun _ _ x => x.elim)
theorem Mod.setCell {F : Nat → Prop} {a b : World} (h : Mod F a b) {p : Addr} (hp : p.block < a.heap.size → F p.block) (u : Value) : Mod F a (b.setCell p u) :=
  h.trans (G := fun i => i = p.block) ⟨rfl, rfl, rfl, by simp [World.setCell], fun i _ hf => Below.heap_setCell _ _ _ _ hf⟩ (fun i hi x => by subst x; exact hp hi)
theorem Mod.setRow {F : Nat → Prop} {a b : World} (h : Mod F a b) {g : Nat} (hp : g < a.heap.size → F g) (cs : Array Value) : Mod F a (b.setRow g cs) :=
  h.trans (G := fun i => i = g) ⟨rfl, rfl, rfl, by simp [World.setRow], fun i _ hf => setRow_other _ _ _ _ hf⟩ (fun i hi x => by subst x; exact hp hi)
theorem Mod.grown {F : Nat → Prop} {a b c : World} (h : Mod F a b) {row : Option Nat} (hg : b.grownBy c row) (hr : ∀ k, row = some k → k < a.heap.size → F k) : Mod F a c :=
  h.trans (G := fun i => row = some i) ⟨hg.os, hg.tape, hg.output, hg.size, fun i hi hf => hg.block i hi (fun e => hf e.symm)⟩ (fun i hi x => hr i x hi)

section blk
variable {w w' : World} {g : Nat} {t : TypeId} {cs : List Value}
theorem Blk.lt (h : Blk w g t cs) : g < w.heap.size := (Array.getElem?_eq_some_iff.1 h).1
theorem Blk.cell (h : Blk w g t cs) (i : Nat) : w.cell? ⟨g, i, none⟩ = cs[i]? := by rw [cell_of_row w g i cs.toArray t (0, 0) h]; simp
theorem Blk.frozen (h : Blk w g t cs) (i : Nat) : w.frozen? ⟨g, i, none⟩ = false := by unfold Blk at h; simp [World.frozen?, h]
theorem Blk.new (w : World) (t : TypeId) (cs : Array Value) : Blk (w.alloc (.cells cs t)) w.heap.size t cs.toList := by unfold Blk; simpa using heap_alloc_new w _
theorem Blk.drew (h : Blk w g t cs) : Blk w.drew g t cs := h
theorem Blk.drewN (h : Blk w g t cs) (n : Nat) : Blk (w.drewN n) g t cs := h
theorem Blk.alloc (h : Blk w g t cs) (o : Obj) : Blk (w.alloc o) g t cs := (Below.heap_alloc w o g h.lt).trans h
theorem Blk.set_ (h : Blk w g t cs) (i : Nat) (u : Value) : Blk (w.setCell ⟨g, i, none⟩ u) g t (cs.set i u) := by
  unfold Blk at h ⊢
  simp [World.setCell, Array.getElem?_modify, h]
theorem Blk.far (h : Blk w g t cs) {p : Addr} (hp : g ≠ p.block) (u : Value) : Blk (w.setCell p u) g t cs := (Below.heap_setCell w p u g hp).trans h
theorem Blk.below {B : Nat} (h : Blk w g t cs) (hb : Below B w w') (hg : g < B) : Blk w' g t cs := (hb.block g hg).trans h
theorem Blk.below' (h : Blk w g t cs) (hb : Below w.heap.size w w') : Blk w' g t cs := h.below hb h.lt
theorem Blk.grown {row : Option Nat} (h : Blk w g t cs) (hb : w.grownBy w' row) (hg : some g ≠ row) : Blk w' g t cs := (hb.block g h.lt hg).trans h
theorem Blk.mod {F : Nat → Prop} (h : Blk w g t cs) (hb : Mod F w w') (hg : ¬ F g) : Blk w' g t cs := (hb.block g h.lt hg).trans h
theorem Blk.agree {F : Nat → Prop} (h : Blk w g t cs) (hb : Agree F w w') (hg : F g) : Blk w' g t cs := (hb g hg).trans h
theorem Blk.ne_ {g' : Nat} {t' : TypeId} {cs' : List Value} (h : Blk w g t cs) (h' : Blk w g' t' cs') (hne : t ≠ t') : g ≠ g' := by
  rintro rfl
  unfold Blk at h h'
  rw [h] at h'
  injection h' with h'
  injection h' with _ ht
  exact hne ht
theorem Blk.setRow_ (h : Blk w g t cs) (ds : List Value) : Blk (w.setRow g ds.toArray) g t ds := setRow_heap w g _ _ t (0, 0) h
theorem Blk.setRow_far (h : Blk w g t cs) {g' : Nat} (hg : g ≠ g') (ds : Array Value) : Blk (w.setRow g' ds) g t cs := (setRow_other w g' g ds hg).trans h
end blk

/-- A slice value: n elements of size cells each, which read as the cells xs; they lie in a block of F. -/
def Sl (w : World) (F : Nat → Prop) (size : Nat) (v : Value) (n : Nat) (xs : List Value) : Prop :=
  xs.length = n * size ∧ ∃ A c, v = .slice A n c ∧ n ≤ c ∧ (0 < n → ∃ ad, A = some ad ∧ F ad.block ∧ ∀ j u, xs[j]? = some u → w.cell? (ad.add j) = some u)

theorem block_add (a : Addr) (n : Nat) : (a.add n).block = a.block := by unfold Addr.add; split <;> rfl
theorem add_add' (a : Addr) (i j : Nat) : (a.add i).add j = a.add (i + j) := by
  unfold Addr.add
  by_cases hi : i = 0 <;> by_cases hj : j = 0 <;> simp [hi, hj, Nat.add_assoc]
theorem add_lit0 (g o j : Nat) : (⟨g, o, none⟩ : Addr).add j = ⟨g, o + j, none⟩ := by unfold Addr.add; split <;> simp_all

section sl
variable {w w' : World} {F G : Nat → Prop} {size n : Nat} {v : Value} {xs : List Value}
theorem Sl.nil_ (w : World) (F : Nat → Prop) (size : Nat) : Sl w F size (.slice none 0 0) 0 [] := ⟨by simp, none, 0, rfl, Nat.le_refl _, fun h => absurd h (by omega)⟩
theorem Sl.agree (h : Sl w F size v n xs) (ha : Agree F w w') : Sl w' F size v n xs := by
  obtain ⟨hl, A, c, hv, hc, hr⟩ := h
  refine ⟨hl, A, c, hv, hc, fun hn => ?_⟩
  obtain ⟨ad, hA, hF, hx⟩ := hr hn
  refine ⟨ad, hA, hF, fun j u hu => ?_⟩
  rw [World.cell?_of_block (w := w) (by rw [block_add]; exact ha _ hF)]
  exact hx j u hu
theorem Sl.mono (h : Sl w F size v n xs) (hF : ∀ i, i < w.heap.size → F i → G i) (hs : 0 < size) : Sl w G size v n xs := by
  obtain ⟨hl, A, c, hv, hc, hr⟩ := h
  refine ⟨hl, A, c, hv, hc, fun hn => ?_⟩
  obtain ⟨ad, hA, hFa, hx⟩ := hr hn
  refine ⟨ad, hA, hF _ ?_ hFa, hx⟩
  have hp : 0 < xs.length := by rw [hl]; exact Nat.mul_pos hn hs
  have := hx 0 _ (List.getElem?_eq_getElem hp)
  have := World.block_lt_of_cell? w _ this
  rwa [block_add] at this
theorem Sl.lt (h : Sl w F size v n xs) (hs : 0 < size) : Sl w (fun i => F i ∧ i < w.heap.size) size v n xs := h.mono (fun _ hi hF => ⟨hF, hi⟩) hs
theorem Sl.below (h : Sl w F size v n xs) (hs : 0 < size) (hb : Below w.heap.size w w') : Sl w' F size v n xs :=
  ((h.lt hs).agree (fun i hi => hb.block i hi.2)).mono (fun _ _ hi => hi.1) hs
theorem Sl.mod (h : Sl w F size v n xs) (hs : 0 < size) (hb : Mod G w w') (hG : ∀ i, F i → ¬ G i) : Sl w' F size v n xs :=
  ((h.lt hs).agree (fun i hi => hb.block i hi.2 (hG i hi.1))).mono (fun _ _ hi => hi.1) hs
theorem Sl.of_own {base : Nat} {e : TypeId} (h : w.ownsRow base e size v n xs) : Sl w (fun i => v.ownBlock = some i ∧ base ≤ i) size v n xs := by
  obtain ⟨hl, h | ⟨g, cap, cur, rfl, hb, hg, hn, _, _, ht⟩⟩ := h
  · obtain ⟨rfl, rfl⟩ := h
    exact ⟨hl, none, 0, rfl, Nat.le_refl _, fun h => absurd h (by omega)⟩
  · refine ⟨hl, _, _, rfl, hn, fun _ => ⟨_, rfl, ⟨rfl, hb⟩, fun j u hu => ?_⟩⟩
    rw [add_lit0, Nat.zero_add, cell_of_row w g j cur e (0, 0) hg]
    rw [← ht, List.getElem?_take] at hu
    split at hu
    · simpa using hu
    · cases hu
end sl

section own
variable {w w' : World} {base : Nat} {e : TypeId} {size n : Nat} {v : Value} {xs : List Value}
theorem own_agree (h : w.ownsRow base e size v n xs) (ha : ∀ b, v.ownBlock = some b → w'.heap[b]? = w.heap[b]?) : w'.ownsRow base e size v n xs := by
  refine ⟨h.1, ?_⟩
  rcases h.2 with hn | ⟨g, cap, cur, rfl, hb, hg, rest⟩
  · exact .inl hn
  · exact .inr ⟨g, cap, cur, rfl, hb, (ha g rfl).trans hg, rest⟩
theorem own_base (h : w.ownsRow base e size v n xs) {b : Nat} (hb : v.ownBlock = some b) : base ≤ b := (h.lt b hb).1
theorem own_lt' (h : w.ownsRow base e size v n xs) {b : Nat} (hb : v.ownBlock = some b) : b < w.heap.size := (h.lt b hb).2
theorem own_lower (h : w.ownsRow base e size v n xs) {base' : Nat} (hb : base' ≤ base) : w.ownsRow base' e size v n xs := by
  refine ⟨h.1, ?_⟩
  rcases h.2 with hn | ⟨g, cap, cur, hv, hg, rest⟩
  · exact .inl hn
  · exact .inr ⟨g, cap, cur, hv, by omega, rest⟩
theorem own_raise (h : w.ownsRow base e size v n xs) {base' : Nat} (hb : ∀ b, v.ownBlock = some b → base' ≤ b) : w.ownsRow base' e size v n xs := by
  refine ⟨h.1, ?_⟩
  rcases h.2 with hn | ⟨g, cap, cur, rfl, hg, rest⟩
  · exact .inl hn
  · exact .inr ⟨g, cap, cur, rfl, hb g rfl, rest⟩
theorem own_below (h : w.ownsRow base e size v n xs) (hb : Below w.heap.size w w') : w'.ownsRow base e size v n xs := own_agree h fun b hv => hb.block b (own_lt' h hv)
theorem own_mod {F : Nat → Prop} (h : w.ownsRow base e size v n xs) (hb : Mod F w w') (hF : ∀ b, v.ownBlock = some b → ¬ F b) : w'.ownsRow base e size v n xs :=
  own_agree h fun b hv => hb.block b (own_lt' h hv) (hF b hv)
theorem own_blk_ne {g : Nat} {t : TypeId} {cs : List Value} (h : w.ownsRow base e size v n xs) (hg : Blk w g t cs) (hne : e ≠ t) : v.ownBlock ≠ some g := by
  rcases h.2 with ⟨rfl, _⟩ | ⟨g', cap, cur, rfl, _, hh, _⟩
  · simp [Value.ownBlock]
  · intro he
    have : g' = g := by simpa [Value.ownBlock] using he
    subst this
    exact Blk.ne_ (t := e) (cs := cur.toList) (by unfold Blk; simpa using hh) hg hne rfl
theorem own_ne {base' : Nat} {e' : TypeId} {size' n' : Nat} {v' : Value} {xs' : List Value} (h : w.ownsRow base e size v n xs) (h' : w.ownsRow base' e' size' v' n' xs') (hne : e ≠ e') :
    ∀ b, v.ownBlock = some b → v'.ownBlock ≠ some b := by
  intro b hb hb'
  rcases h'.2 with ⟨rfl, _⟩ | ⟨g', cap, cur, rfl, _, hh, _⟩
  · simp [Value.ownBlock] at hb'
  · have : g' = b := by simpa [Value.ownBlock] using hb'
    subst this
    exact own_blk_ne h (t := e') (cs := cur.toList) (by unfold Blk; simpa using hh) hne hb
theorem own_grown {row : Option Nat} (h : w.ownsRow base e size v n xs) (hg : w.grownBy w' row) (hr : ∀ b, v.ownBlock = some b → row ≠ some b) : w'.ownsRow base e size v n xs :=
  own_agree h fun b hv => hg.block b (own_lt' h hv) (fun e => hr b hv e.symm)
theorem own_setCell (h : w.ownsRow base e size v n xs) {p : Addr} (hp : v.ownBlock ≠ some p.block) (u : Value) : (w.setCell p u).ownsRow base e size v n xs :=
  own_agree h fun b hv => Below.heap_setCell _ _ _ _ (fun e => hp (by rw [hv, e]))
/-- the form of an owned row: nil, or at the head of a block -/
theorem own_form (h : w.ownsRow base e size v n xs) : ∃ A c, v = .slice A n c ∧ n ≤ c ∧ c ≤ maxLen := by
  rcases h.2 with ⟨rfl, rfl⟩ | ⟨g', cap, cur, rfl, _, _, h1, h2, _⟩
  · exact ⟨none, 0, rfl, Nat.le_refl _, by simp [maxLen]⟩
  · exact ⟨_, _, rfl, h1, h2⟩
end own

/-- bytes as cells -/
def B8 (l : List UInt8) : List Value := l.map fun b => .int .u8 (b.toNat : Int)
theorem B8_length (l : List UInt8) : (B8 l).length = l.length := by simp [B8]
theorem B8_append (l k : List UInt8) : B8 (l ++ k) = B8 l ++ B8 k := by simp [B8]
theorem B8_take (l : List UInt8) (n : Nat) : (B8 l).take n = B8 (l.take n) := by simp [B8, List.map_take]
theorem B8_drop (l : List UInt8) (n : Nat) : (B8 l).drop n = B8 (l.drop n) := by simp [B8, List.map_drop]
theorem B8_one (l : List UInt8) : ∀ u ∈ B8 l, u.oneCell' = true := by intro u hu; obtain ⟨b, _, rfl⟩ := List.mem_map.1 hu; rfl
theorem B8_get {l : List UInt8} {j : Nat} {u : Value} (h : (B8 l)[j]? = some u) : ∃ b, l[j]? = some b ∧ u = .int .u8 (b.toNat : Int) := by
  simp only [B8, List.getElem?_map, Option.map_eq_some_iff] at h
  obtain ⟨b, hb, rfl⟩ := h
  exact ⟨b, hb, rfl⟩
theorem B8_inj {l k : List UInt8} (h : B8 l = B8 k) : l = k := by
  refine List.map_inj_right (fun a b hab => ?_) |>.1 h
  injection hab with _ h
  exact UInt8.toNat_inj.1 (by omega)

section laws
variable {P : Program} (w : World)

theorem run_app_nil (base : Nat) (t ty e : TypeId) (i : TypeInfo) (size : Nat) (ht : P.underlying t = some (.slice e)) (hi : P.info? e = some i)
    (v : Value) (n : Nat) (xs : List Value) (hown : w.ownsRow base e size v n xs) (c : Nat) : (Builtin.append_ #[t, t] ty #[v, .slice none 0 c]).run P w = .ok v w := by
  rcases hown.2 with ⟨rfl, rfl⟩ | ⟨g, cap, cur, rfl, _, _, hnc, _⟩
  · simp [Builtin.append_, run_underlying ht, sizeOf, typeInfo, hi, Builtin.lenOf, Builtin.firstCells]
  · simp [Builtin.append_, run_underlying ht, sizeOf, typeInfo, hi, Builtin.lenOf, Builtin.firstCells, hnc, storeCells]

/-- append onto an owned row, of whatever slice that reads. -/
theorem run_app (t ty e : TypeId) (z : Value) (size bytes : Nat) (ht : P.underlying t = some (.slice e)) (hi : (P.info? e).map (fun i => (i.zero, i.size, i.bytes)) = some (some z, size, bytes))
    (hzs : z.cells.size = size) (hsz : 0 < size) (hb0 : 0 < bytes) (v : Value) (n : Nat) (xs : List Value) (hown : w.ownsRow 0 e size v n xs)
    (F : Nat → Prop) (vs : Value) (m : Nat) (news : List Value) (hr : Sl w F size vs m news) (h1 : ∀ u ∈ news, u.oneCell' = true) (hb : (n + m) * bytes ≤ 140737488355328) :
    ∃ A' c' w', (Builtin.append_ #[t, t] ty #[v, vs]).run P w = .ok (.slice A' (n + m) c') w' ∧ w'.ownsRow 0 e size (.slice A' (n + m) c') (n + m) (xs ++ news) ∧ w.grownBy w' v.ownBlock ∧
      ((Value.slice A' (n + m) c').ownBlock = v.ownBlock ∨ (Value.slice A' (n + m) c').ownBlock = some w.heap.size) ∧ (A' = none ↔ v = .slice none 0 0 ∧ m = 0) := by
  obtain ⟨i, hi1, hz, hsize, hby⟩ := info_parts hi
  have hml : n + m ≤ maxLen := by
    have : n + m ≤ (n + m) * bytes := Nat.le_mul_of_pos_right _ hb0
    simp only [maxLen]; omega
  obtain ⟨hl, A, c, rfl, hc, hrd⟩ := hr
  rcases A with _ | ad
  · have hm : m = 0 := by
      rcases Nat.eq_zero_or_pos m with h0 | h0
      · exact h0
      · obtain ⟨ad, h, _⟩ := hrd h0
        cases h
    subst hm
    have hn : news = [] := List.eq_nil_of_length_eq_zero (by simpa using hl)
    subst hn
    have hrun := run_app_nil (P := P) w 0 t ty e i size ht hi1 v n xs hown c
    obtain ⟨A', c', hv', _, _⟩ := own_form hown
    subst hv'
    refine ⟨A', c', w, by simpa using hrun, by simpa using hown, ⟨rfl, rfl, rfl, Nat.le_refl _, fun _ _ _ => rfl⟩, .inl (by cases A' <;> rfl), ?_⟩
    rcases hown.2 with ⟨h, hn⟩ | ⟨g, cap, cur, hv, _⟩
    · simp only [Value.slice.injEq] at h
      simp [h]
    · simp only [Value.slice.injEq] at hv
      simp [hv.1]
  · have hcells : ∀ j u, news[j]? = some u → w.cell? (ad.add j) = some u := by
      intro j u hu
      rcases Nat.eq_zero_or_pos m with h0 | h0
      · subst h0
        have hn : news = [] := List.eq_nil_of_length_eq_zero (by simpa using hl)
        subst hn
        simp at hu
      · obtain ⟨ad', h, _, hcc⟩ := hrd h0
        injection h with h
        subst h
        exact hcc j u hu
    obtain ⟨v', w', hrun, h2, h3, h4, h5⟩ := run_append_own_at (P := P) w 0 t ty e i z size bytes ht hi1 hz hsize hby hzs hsz v n xs hown ad m c news hl hcells h1 hml hb (Nat.zero_le _)
    obtain ⟨A', c', rfl, _, _⟩ := own_form h2
    refine ⟨A', c', w', hrun, h2, h3, h5, ?_⟩
    rw [← h4]
    constructor
    · rintro rfl
      rcases h2.2 with ⟨h, _⟩ | ⟨g, cap, cur, hv, _⟩
      · exact h
      · simp at hv
    · intro h; simp at h; exact h.1

theorem wpList_app {ops : Array Oper} {rest : List Oper} {o : Oper} {a : Act} {Q : Exit → Act → World → Prop} (hgd : o.guard = none) (s x : Operand) (t : TypeId)
    (ho : o.op = .call { callee := .builtin .append, args := #[s, x], argTypes := #[t, t] })
    (e : TypeId) (z : Value) (size bytes : Nat) (ht : P.underlying t = some (.slice e)) (hi : (P.info? e).map (fun i => (i.zero, i.size, i.bytes)) = some (some z, size, bytes))
    (hzs : z.cells.size = size) (hsz : 0 < size) (hb0 : 0 < bytes) (v : Value) (n : Nat) (xs : List Value) (hs : a.eval s = v) (hown : w.ownsRow 0 e size v n xs)
    (F : Nat → Prop) (vs : Value) (m : Nat) (news : List Value) (hx : a.eval x = vs) (hr : Sl w F size vs m news) (h1 : ∀ u ∈ news, u.oneCell' = true) (hb : (n + m) * bytes ≤ 140737488355328)
    (h : ∀ A' c' w', w'.ownsRow 0 e size (.slice A' (n + m) c') (n + m) (xs ++ news) → w.grownBy w' v.ownBlock →
      ((Value.slice A' (n + m) c').ownBlock = v.ownBlock ∨ (Value.slice A' (n + m) c').ownBlock = some w.heap.size) → Hid (A' = none ↔ v = .slice none 0 0 ∧ m = 0) → wpList P ops Q rest (a.put o.dst (.slice A' (n + m) c')) w') :
    wpList P ops Q (o :: rest) a w := by
  refine wpList_plain hgd fun K hK => ?_
  obtain ⟨A', c', w', hrun, h2, h3, h4, h5⟩ := run_app (P := P) w t o.type e z size bytes ht hi hzs hsz hb0 v n xs hown F vs m news hr h1 hb
  unfold Oper.wp execOp
  simp only [ho, resolve, invoke, builtin, Sem.run_bind, Sem.run_pure, Result.andThen_ok, List.map_toArray, List.map_cons, List.map_nil, hs, hx, hrun]
  exact hK _ _ (h A' c' w' h2 h3 h4 h5)

theorem step_app {ops : Array Oper} {o : Oper} {a : Act} {K : Act → World → Prop} {Q : Exit → Act → World → Prop} {E : Prop} (hgd : o.guard = none) (s x : Operand) (t : TypeId)
    (ho : o.op = .call { callee := .builtin .append, args := #[s, x], argTypes := #[t, t] })
    (e : TypeId) (z : Value) (size bytes : Nat) (ht : P.underlying t = some (.slice e)) (hi : (P.info? e).map (fun i => (i.zero, i.size, i.bytes)) = some (some z, size, bytes))
    (hzs : z.cells.size = size) (hsz : 0 < size) (hb0 : 0 < bytes) (v : Value) (n : Nat) (xs : List Value) (hs : a.eval s = v) (hown : w.ownsRow 0 e size v n xs)
    (F : Nat → Prop) (vs : Value) (m : Nat) (news : List Value) (hx : a.eval x = vs) (hr : Sl w F size vs m news) (h1 : ∀ u ∈ news, u.oneCell' = true) (hb : (n + m) * bytes ≤ 140737488355328)
    (h : ∀ A' c' w', w'.ownsRow 0 e size (.slice A' (n + m) c') (n + m) (xs ++ news) → w.grownBy w' v.ownBlock →
      ((Value.slice A' (n + m) c').ownBlock = v.ownBlock ∨ (Value.slice A' (n + m) c').ownBlock = some w.heap.size) → Hid (A' = none ↔ v = .slice none 0 0 ∧ m = 0) → K (a.put o.dst (.slice A' (n + m) c')) w') :
    if Region.wanted o (yielded ops a.tmps) = true then Oper.wp P o a w K Q else E := by
  have hw : Region.wanted o (yielded ops a.tmps) = true := by simp [Region.wanted, hgd]
  rw [if_pos hw]
  obtain ⟨A', c', w', hrun, h2, h3, h4, h5⟩ := run_app (P := P) w t o.type e z size bytes ht hi hzs hsz hb0 v n xs hown F vs m news hr h1 hb
  unfold Oper.wp execOp
  simp only [ho, resolve, invoke, builtin, Sem.run_bind, Sem.run_pure, Result.andThen_ok, List.map_toArray, List.map_cons, List.map_nil, hs, hx, hrun]
  exact h A' c' w' h2 h3 h4 h5
end laws

theorem Sl.one (w : World) (e : TypeId) (x : Value) : Sl (w.alloc (.cells #[x] e)) (fun i => i = w.heap.size) 1 (.slice (some ⟨w.heap.size, 0, none⟩) 1 1) 1 [x] :=
  ⟨rfl, _, 1, rfl, Nat.le_refl _, fun _ => ⟨_, rfl, rfl, cell_one_new w x e⟩⟩
theorem Sl.of_blk {w : World} {g : Nat} {t : TypeId} {cs : List Value} (h : Blk w g t cs) (size n c : Nat) (hl : cs.length = n * size) (hc : n ≤ c) : Sl w (fun i => i = g) size (.slice (some ⟨g, 0, none⟩) n c) n cs :=
  ⟨hl, _, c, rfl, hc, fun _ => ⟨_, rfl, rfl, fun j u hu => by rw [add_lit0, Nat.zero_add, h.cell]; exact hu⟩⟩
theorem own_of_blk {w : World} {g : Nat} {t : TypeId} {cs : List Value} (h : Blk w g t cs) (size n : Nat) (hl : cs.length = n * size) (hm : n ≤ maxLen) : w.ownsRow 0 t size (.slice (some ⟨g, 0, none⟩) n n) n cs :=
  ⟨hl, .inr ⟨g, n, cs.toArray, rfl, Nat.zero_le _, h, Nat.le_refl _, hm, by simp [hl], by simp [← hl]⟩⟩
theorem own_take {w : World} {base : Nat} {e : TypeId} {size n : Nat} {A : Option Addr} {c : Nat} {xs : List Value} (h : w.ownsRow base e size (.slice A n c) n xs) {n' : Nat} (hn : n' ≤ n) : w.ownsRow base e size (.slice A n' c) n' (xs.take (n' * size)) := by
  refine ⟨by rw [List.length_take, h.1]; exact Nat.min_eq_left (Nat.mul_le_mul_right _ hn), ?_⟩
  rcases h.2 with ⟨h1, h2⟩ | ⟨g, cap, cur, hv, hb, hg, h1, h2, h3, h4⟩
  · simp only [Value.slice.injEq] at h1
    exact .inl ⟨by simp only [Value.slice.injEq]; exact ⟨h1.1, by omega, h1.2.2⟩, by omega⟩
  · simp only [Value.slice.injEq] at hv
    refine .inr ⟨g, cap, cur, by simp only [Value.slice.injEq]; exact ⟨hv.1, trivial, hv.2.2⟩, hb, hg, by omega, h2, h3, ?_⟩
    rw [← h4, List.take_take, Nat.min_eq_left (Nat.mul_le_mul_right _ hn)]
theorem own_nil0 (w : World) (e : TypeId) (size : Nat) : w.ownsRow 0 e size (.slice none 0 0) 0 [] := ⟨by simp, .inl ⟨rfl, rfl⟩⟩

section copying
variable {P : Program} {w : World}
theorem splice_take {α : Type} (L : List α) (n off : Nat) (cs : List α) (h : off + cs.length ≤ n) (hn : n ≤ L.length) : (splice L off cs).take n = splice (L.take n) off cs := by
  unfold splice
  have e1 : min off L.length = off := by omega
  have e2 : min off (min n L.length) = off := by omega
  apply List.ext_getElem?
  intro i
  simp only [List.getElem?_take, List.getElem?_append, List.length_take, List.getElem?_drop, e1, e2]
  by_cases h1 : i < n
  · by_cases h2 : i < off
    · simp [h1, h2]
    · by_cases h3 : i - off < cs.length
      · simp [h1, h2, h3]
      · simp only [h1, h2, h3, if_true, if_false]
        rw [if_pos (by omega)]
  · rw [if_neg h1, if_neg (by omega), if_neg (by omega), if_neg (by omega)]

/-- copy into an owned row, as one equation of the run -/
theorem run_copy_at (dT sT ty elem : TypeId) (hu : P.underlying dT = some (.slice elem)) (hsz : (P.info? elem).map (·.size) = some 1)
    (g n cap : Nat) (xs : List Value) (hown : w.ownsRow 0 elem 1 (.slice (some ⟨g, 0, none⟩) n cap) n xs) (off dLen dCap : Nat) (F : Nat → Prop) (vs : Value) (m : Nat) (news : List Value) (hr : Sl w F 1 vs m news)
    (h1 : ∀ u ∈ news, u.oneCell' = true) (hm : m ≤ dLen) (hfit : off + m ≤ n) :
    ∃ w', (Builtin.copy_ #[dT, sT] ty #[.slice (some ⟨g, off, none⟩) dLen dCap, vs]).run P w = .ok (.int .i64 (m : Int)) w' ∧ w'.ownsRow 0 elem 1 (.slice (some ⟨g, 0, none⟩) n cap) n (splice xs off news) ∧ Mod (fun i => i = g) w w' := by
  obtain ⟨hl, A, c, rfl, hc, hrd⟩ := hr
  have hl' : news.length = m := by simpa using hl
  by_cases h0 : m = 0
  · subst h0
    obtain rfl : news = [] := List.eq_nil_of_length_eq_zero hl'
    have hrun := run_copy_none (P := P) w dT sT ty elem (some ⟨g, off, none⟩) A dLen dCap 0 c hu hsz (by simp)
    refine ⟨w, by simpa [goInt] using hrun, by simpa [splice] using hown, Mod.refl _ _⟩
  · obtain ⟨ad, rfl, _, hsrc⟩ := hrd (by omega)
    rcases hown.2 with ⟨h, _⟩ | ⟨g', cap', cur, hv, hb, hg, hnc, hcm, hcs, ht⟩
    · simp at h
    · simp only [Value.slice.injEq, Option.some.injEq, Addr.mk.injEq, and_true, true_and] at hv
      obtain ⟨rfl, rfl⟩ := hv
      have hxl : xs.length = n * 1 := hown.1
      have hrun := run_copy_row (P := P) w dT sT ty elem g off dLen dCap ad m c cur elem news hu hsz hg (by rw [hl']; exact (Nat.min_eq_left hm).symm) hsrc (by rw [hl', hcs]; omega) h1
      have hcl : n ≤ cur.toList.length := by simp; omega
      refine ⟨_, by rw [hl'] at hrun; simpa [goInt] using hrun, ⟨?_, .inr ⟨g, cap, _, rfl, Nat.zero_le _, setRow_heap w g cur _ elem _ hg, hnc, hcm, ?_, ?_⟩⟩, Mod.setRow (F := fun i => i = g) (Mod.refl _ _) (fun _ => rfl) _⟩
      · rw [length_splice _ _ _ (by omega)]; exact hxl
      · have := length_splice cur.toList off news (by simp; omega)
        simp only [splice] at this
        rw [List.size_toArray, ← hl', this]
        simpa using hcs
      · have := splice_take cur.toList n off news (by omega) hcl
        rw [Nat.mul_one] at ht ⊢
        rw [← ht, ← hl']
        exact this

theorem wpList_copy_at {ops : Array Oper} {rest : List Oper} {o : Oper} {a : Act} {Q : Exit → Act → World → Prop} (hgd : o.guard = none) (d s : Operand) (dT sT : TypeId)
    (ho : o.op = .call { callee := .builtin .copy, args := #[d, s], argTypes := #[dT, sT] }) (elem : TypeId) (hu : P.underlying dT = some (.slice elem)) (hsz : (P.info? elem).map (·.size) = some 1)
    (g n cap : Nat) (xs : List Value) (hown : w.ownsRow 0 elem 1 (.slice (some ⟨g, 0, none⟩) n cap) n xs) (off dLen dCap : Nat) (hd : a.eval d = .slice (some ⟨g, off, none⟩) dLen dCap)
    (F : Nat → Prop) (vs : Value) (hs : a.eval s = vs) (m : Nat) (news : List Value) (hr : Sl w F 1 vs m news) (h1 : ∀ u ∈ news, u.oneCell' = true) (hm : m ≤ dLen) (hfit : off + m ≤ n)
    (h : ∀ w', w'.ownsRow 0 elem 1 (.slice (some ⟨g, 0, none⟩) n cap) n (splice xs off news) → Mod (fun i => i = g) w w' → wpList P ops Q rest (a.put o.dst (.int .i64 (m : Int))) w') :
    wpList P ops Q (o :: rest) a w := by
  refine wpList_plain hgd fun K hK => ?_
  obtain ⟨w', hrun, h2, h3⟩ := run_copy_at (P := P) dT sT o.type elem hu hsz g n cap xs hown off dLen dCap F vs m news hr h1 hm hfit
  unfold Oper.wp execOp
  simp only [ho, resolve, invoke, builtin, Sem.run_bind, Sem.run_pure, Result.andThen_ok, List.map_toArray, List.map_cons, List.map_nil, hd, hs, hrun]
  exact hK _ _ (h w' h2 h3)

theorem step_copy_at {ops : Array Oper} {o : Oper} {a : Act} {K : Act → World → Prop} {Q : Exit → Act → World → Prop} {E : Prop} (hgd : o.guard = none) (d s : Operand) (dT sT : TypeId)
    (ho : o.op = .call { callee := .builtin .copy, args := #[d, s], argTypes := #[dT, sT] }) (elem : TypeId) (hu : P.underlying dT = some (.slice elem)) (hsz : (P.info? elem).map (·.size) = some 1)
    (g n cap : Nat) (xs : List Value) (hown : w.ownsRow 0 elem 1 (.slice (some ⟨g, 0, none⟩) n cap) n xs) (off dLen dCap : Nat) (hd : a.eval d = .slice (some ⟨g, off, none⟩) dLen dCap)
    (F : Nat → Prop) (vs : Value) (hs : a.eval s = vs) (m : Nat) (news : List Value) (hr : Sl w F 1 vs m news) (h1 : ∀ u ∈ news, u.oneCell' = true) (hm : m ≤ dLen) (hfit : off + m ≤ n)
    (h : ∀ w', w'.ownsRow 0 elem 1 (.slice (some ⟨g, 0, none⟩) n cap) n (splice xs off news) → Mod (fun i => i = g) w w' → K (a.put o.dst (.int .i64 (m : Int))) w') :
    if Region.wanted o (yielded ops a.tmps) = true then Oper.wp P o a w K Q else E := by
  have hw : Region.wanted o (yielded ops a.tmps) = true := by simp [Region.wanted, hgd]
  rw [if_pos hw]
  obtain ⟨w', hrun, h2, h3⟩ := run_copy_at (P := P) dT sT o.type elem hu hsz g n cap xs hown off dLen dCap F vs m news hr h1 hm hfit
  unfold Oper.wp execOp
  simp only [ho, resolve, invoke, builtin, Sem.run_bind, Sem.run_pure, Result.andThen_ok, List.map_toArray, List.map_cons, List.map_nil, hd, hs, hrun]
  exact h w' h2 h3
end copying

#print axioms wpList_app
end Go.Proofs.YteeijjhgdplifaaGreatDoor
