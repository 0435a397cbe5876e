/- HOW ARGUMENTS ARE OPENED, and the row's end: no program in sight. -/
import Derived.Test.YteeijjhgdplifaaGreatDoorWd
import Derived.ProofKit
import Derived.OpenShut
import Derived.ShutString
import Derived.ChangeOld
import Derived.SizedLaws
import Derived.Deep.Slices
import Derived.Deep.Fields
import Derived.Deep.CondSized
import Derived.JoinedCond
namespace Go.Proofs.YteeijjhgdplifaaGreatDoor
open Go.RowKit Go.ChangeShapes Go.WideShapes Go.ChangeAt Go.Deep

section
variable {H : Type} {enc : TypeId × Value → H} {P : Program} {w : World}

/-- all sizes that a reading bears are within B -/
def Within (P : Program) (B : Nat) (t : TypeId) (d : DataW H) : Prop := ∀ n ∈ d.weights P t, n ≤ B

theorem within_arg {ts : List TypeId} {ds : List (DataW H)} {B j : Nat} {t : TypeId} {d : DataW H} (h : (DataW.weightsEach P ts ds).all (· ≤ B) = true) (ht : ts[j]? = some t) (hd : ds[j]? = some d) : Within P B t d :=
  fun n hn => by simpa using List.all_eq_true.1 h n (DataW.weights_mem_each ht hd n hn)

theorem within_field {fs : Array Field} {t : TypeId} {parts : List (DataW H)} {B : Nat} (hs : P.underlying t = some (.struct fs)) (h : Within P B t (.agg parts)) {j : Nat} {f : Field} {d : DataW H} (hf : fs[j]? = some f) (hd : parts[j]? = some d) : Within P B f.type d := by
  intro n hn
  refine h n ?_
  simp only [DataW.weights, hs]
  exact DataW.weights_mem_each (j := j) (by simp [hf]) hd n hn

theorem weightsAll_mem {e : TypeId} : ∀ {ds : List (DataW H)} {d : DataW H}, d ∈ ds → ∀ n ∈ d.weights P e, n ∈ DataW.weightsAll P e ds
  | x :: r, d, hd, n, hn => by
    simp only [DataW.weightsAll, List.mem_append]
    rcases List.mem_cons.1 hd with rfl | hd
    · exact .inl hn
    · exact .inr (weightsAll_mem hd n hn)

theorem within_elem {t e : TypeId} {elems spare : List (DataW H)} {B : Nat} (hs : P.underlying t = some (.slice e)) (h : Within P B t (.slice elems spare)) {d : DataW H} (hd : d ∈ elems) : Within P B e d := by
  intro n hn
  refine h n ?_
  simp only [DataW.weights, hs, List.mem_cons, List.mem_append]
  exact .inr (.inl (weightsAll_mem hd n hn))
theorem within_len {t e : TypeId} {elems spare : List (DataW H)} {B : Nat} (hs : P.underlying t = some (.slice e)) (h : Within P B t (.slice elems spare)) : elems.length * P.bytesOf e ≤ B := by
  refine Nat.le_trans (Nat.mul_le_mul_right _ (Nat.le_add_right _ _)) (h ((elems.length + spare.length) * P.bytesOf e) ?_)
  simp [DataW.weights, hs]

/-- a slice of bytes -/
theorem open_bytes {t e : TypeId} {fuel : Nat} {v : Value} {x : DataW H × List MemPlace} {B : Nat} (ht : P.underlying t = some (.slice e)) (he : P.underlying e = some (.int .u8)) (hc : P.cellsOf e = 1) (hb : P.bytesOf e = 1)
    (h : DataW.trod enc P w 0 (fun _ => true) true fuel t [v] = some x) (hB : Within P B t x.1) :
    ∃ A n c, ∃ l : List UInt8, v = .slice A n c ∧ Sl w (fun b => b < w.heap.size) 1 (.slice A n c) n (B8 l) ∧ l.length = n ∧ n ≤ B := by
  rcases open_ints ht he hc h with ⟨hcs, rfl⟩ | ⟨a, len, cap, zs, hcs, _, hl, hm, hz, hx, hcell, hwf⟩
  · simp only [List.cons.injEq, and_true] at hcs
    subst hcs
    exact ⟨none, 0, 0, [], rfl, Sl.nil_ _ _ _, rfl, Nat.zero_le _⟩
  · simp only [List.cons.injEq, and_true] at hcs
    subst hcs hx
    have hzc : zs.length = cap := by simpa using hz
    have hn : ((zs.take len).map fun z => UInt8.ofNat z.toNat).length = len := by simp; omega
    have hr : ∀ z ∈ zs, ((UInt8.ofNat z.toNat).toNat : Int) = z := by
      intro z hz
      have := hwf z hz
      simp [Lit.wf, IntKind.min, IntKind.max, IntKind.signed, IntKind.bits] at this
      rw [UInt8.toNat_ofNat']
      omega
    refine ⟨some a, len, cap, (zs.take len).map fun z => UInt8.ofNat z.toNat, rfl, ⟨by rw [B8_length, hn]; omega, some a, cap, rfl, hl, fun h0 => ⟨a, rfl, ?_, fun j u hu => ?_⟩⟩, hn, ?_⟩
    · have := World.block_lt_of_cell? _ _ (hcell 0 (by omega))
      rwa [block_add] at this
    · obtain ⟨b, hb, rfl⟩ := B8_get hu
      simp only [List.getElem?_map, Option.map_eq_some_iff] at hb
      obtain ⟨z, hz, rfl⟩ := hb
      have hj : j < len := by
        have := (List.getElem?_eq_some_iff.1 hz).1
        simp at this; omega
      have hzj : zs[j]? = some z := by rw [List.getElem?_take, if_pos hj] at hz; exact hz
      rw [hcell j (by omega), List.getD_eq_getElem?_getD, hzj, Option.getD_some, hr z (List.mem_of_getElem? hzj)]
    · have := within_len ht hB
      rw [hb] at this
      simp [lits] at this
      omega

/-- bools as cells -/
def BL (l : List Bool) : List Value := l.map Value.bool
theorem BL_length (l : List Bool) : (BL l).length = l.length := by simp [BL]
theorem BL_one (l : List Bool) : ∀ u ∈ BL l, u.oneCell' = true := by intro u hu; obtain ⟨b, _, rfl⟩ := List.mem_map.1 hu; rfl

/-- a slice whose elements are of one cell each -/
theorem open_row1 {t e : TypeId} {fuel : Nat} {v : Value} {x : DataW H × List MemPlace} {B : Nat} (ht : P.underlying t = some (.slice e)) (hc : P.cellsOf e = 1)
    (h : DataW.trod enc P w 0 (fun _ => true) true fuel t [v] = some x) (hB : Within P B t x.1) :
    ∃ A n c, ∃ l : List Value, v = .slice A n c ∧ Sl w (fun b => b < w.heap.size) 1 (.slice A n c) n l ∧ l.length = n ∧ n * P.bytesOf e ≤ B ∧
      ∃ m, ∀ u ∈ l, ∃ y, DataW.trod enc P w 0 (fun _ => true) true m e [u] = some y ∧ Within P B e y.1 := by
  rcases open_slice1 ht hc h with ⟨hcs, rfl⟩ | ⟨a, len, cap, m, n, V, D, Pl, hcs, _, hl, hm, hmm, hx, hi⟩
  · simp only [List.cons.injEq, and_true] at hcs
    subst hcs
    exact ⟨none, 0, 0, [], rfl, Sl.nil_ _ _ _, rfl, by simp, 0, by simp⟩
  · simp only [List.cons.injEq, and_true] at hcs
    subst hcs hx
    have hmc : m = cap := by simpa using hmm
    refine ⟨some a, len, cap, (List.range len).map V, rfl, ⟨by simp, some a, cap, rfl, hl, fun h0 => ⟨a, rfl, ?_, fun j u hu => ?_⟩⟩, by simp, ?_, n, fun u hu => ?_⟩
    · have := World.block_lt_of_cell? _ _ (hi 0 (by omega)).1
      rwa [block_add] at this
    · simp only [List.getElem?_map, Option.map_eq_some_iff] at hu
      obtain ⟨i, hi', rfl⟩ := hu
      have hj : j < len := by have := (List.getElem?_eq_some_iff.1 hi').1; simpa using this
      have : i = j := by rw [List.getElem?_range hj] at hi'; injection hi' with h; exact h.symm
      subst this
      exact (hi i (by omega)).1
    · have := within_len ht hB
      simpa using this
    · obtain ⟨i, hir, rfl⟩ := List.mem_map.1 hu
      have hil : i < len := List.mem_range.1 hir
      exact ⟨_, (hi i (by omega)).2, within_elem ht hB (List.mem_map.2 ⟨i, hir, rfl⟩)⟩

theorem open_bools {t e : TypeId} {fuel : Nat} {v : Value} {x : DataW H × List MemPlace} {B : Nat} (ht : P.underlying t = some (.slice e)) (he : P.underlying e = some .bool) (hc : P.cellsOf e = 1) (hb : P.bytesOf e = 1)
    (h : DataW.trod enc P w 0 (fun _ => true) true fuel t [v] = some x) (hB : Within P B t x.1) :
    ∃ A n c, ∃ l : List Bool, v = .slice A n c ∧ Sl w (fun b => b < w.heap.size) 1 (.slice A n c) n (BL l) ∧ l.length = n ∧ n ≤ B := by
  obtain ⟨A, n, c, l, rfl, hs, hl, hn, m, hu⟩ := open_row1 ht hc h hB
  have : ∃ k : List Bool, l = BL k := by
    clear hs hl
    induction l with
    | nil => exact ⟨[], rfl⟩
    | cons u l ih =>
      obtain ⟨k, rfl⟩ := ih (fun z hz => hu z (List.mem_cons_of_mem _ hz))
      obtain ⟨y, hy, _⟩ := hu u List.mem_cons_self
      cases m with
      | zero => simp [DataW.trod] at hy
      | succ m =>
        cases u <;> simp [DataW.trod, he] at hy
        rename_i b
        exact ⟨b :: k, rfl⟩
  obtain ⟨k, rfl⟩ := this
  exact ⟨A, n, c, k, rfl, hs, by simpa [BL] using hl, by rw [hb, Nat.mul_one] at hn; exact hn⟩

theorem open_int1 {t : TypeId} {k : IntKind} {fuel : Nat} {v : Value} {x : DataW H × List MemPlace} (ht : P.underlying t = some (.int k)) (h : DataW.trod enc P w 0 (fun _ => true) true fuel t [v] = some x) : ∃ n, v = .int k n ∧ (Lit.int k n).wf = true := by
  cases fuel with
  | zero => simp [DataW.trod] at h
  | succ m =>
    cases v <;> simp [DataW.trod, ht] at h
    rename_i k' n
    obtain ⟨⟨rfl, hw⟩, _⟩ := h
    exact ⟨n, rfl, hw⟩
theorem open_bool1 {t : TypeId} {fuel : Nat} {v : Value} {x : DataW H × List MemPlace} (ht : P.underlying t = some .bool) (h : DataW.trod enc P w 0 (fun _ => true) true fuel t [v] = some x) : ∃ b, v = .bool b := by
  cases fuel with
  | zero => simp [DataW.trod] at h
  | succ m =>
    cases v <;> simp [DataW.trod, ht] at h
    rename_i b
    exact ⟨b, rfl⟩
theorem open_str1 {t : TypeId} {fuel : Nat} {v : Value} {x : DataW H × List MemPlace} {B : Nat} (ht : P.underlying t = some .string) (h : DataW.trod enc P w 0 (fun _ => true) true fuel t [v] = some x) (hB : Within P B t x.1) : ∃ s, v = .string s ∧ s.size ≤ B := by
  cases fuel with
  | zero => simp [DataW.trod] at h
  | succ m =>
    cases v <;> simp [DataW.trod, ht] at h
    rename_i s
    obtain ⟨_, rfl⟩ := h
    refine ⟨s, rfl, ?_⟩
    have := hB s.data.toList.length (by simp [DataW.weights])
    simpa using this
theorem u8_of {n : Int} (h : (Lit.int .u8 n).wf = true) : ∃ b : UInt8, n = (b.toNat : Int) := by
  simp [Lit.wf, IntKind.min, IntKind.max, IntKind.signed, IntKind.bits] at h
  exact ⟨UInt8.ofNat n.toNat, by rw [UInt8.toNat_ofNat']; omega⟩
theorem i64_of {n : Int} (h : (Lit.int .i64 n).wf = true) : -9223372036854775808 ≤ n ∧ n ≤ 9223372036854775807 := by
  simpa [Lit.wf, IntKind.min, IntKind.max, IntKind.signed, IntKind.bits] using h

/-- a struct of fields of one cell each -/
theorem open_fields {t : TypeId} {fs : Array Field} {fuel : Nat} {cs : List Value} {x : DataW H × List MemPlace} {B : Nat} (hs : P.underlying t = some (.struct fs)) (hone : oneCellFields P fs = true) (hC : P.cellsOf t = fs.size)
    (h : DataW.trod enc P w 0 (fun _ => true) true fuel t cs = some x) (hB : Within P B t x.1) :
    cs.length = fs.size ∧ ∃ n, ∀ (j : Nat) (f : Field) (v : Value), fs[j]? = some f → cs[j]? = some v → ∃ y, DataW.trod enc P w 0 (fun _ => true) true n f.type [v] = some y ∧ Within P B f.type y.1 := by
  obtain ⟨ys, n, _, hx, hlen, hyl, hg⟩ := DataW.trod_struct hs h
  have hl : cs.length = fs.size := by rw [hlen, hC]
  refine ⟨hl, n, fun j f v hf hv => ?_⟩
  obtain ⟨ho, hk⟩ := hone_of hone j f hf
  have h1 := hg j f hf
  rw [ho, hk] at h1
  have hj : j < cs.length := (List.getElem?_eq_some_iff.1 hv).1
  have hone' : (cs.drop j).take 1 = [v] := by
    rw [List.drop_eq_getElem_cons hj, (List.getElem?_eq_some_iff.1 hv).2]
    rfl
  rw [hone'] at h1
  have hjy : j < ys.length := by omega
  rw [List.getElem?_eq_getElem hjy] at h1
  refine ⟨ys[j], h1, ?_⟩
  rw [hx] at hB
  exact within_field hs hB hf (by simp [hjy])

theorem trodAll_stays {W W' : World} (hl : laidOutB P = true) (hb : Below W.heap.size W W') : ∀ (ts : List TypeId) (vs : List Value) (ds : List (DataW H)) (ps : List MemPlace), (ts.all fun t => P.readableRec t && decide (t < P.types.size)) = true →
    DataW.TrodAll enc P W 0 (fun _ => true) true ts vs ds ps → DataW.TrodAll enc P W' 0 (fun b => decide (b < W.heap.size)) true ts vs ds ps
  | [], [], [], _, _, h => h
  | t :: ts, v :: vs, d :: ds, ps, hr, h => by
    obtain ⟨p, q, h1, h2, rfl⟩ := h
    simp only [List.all_cons, Bool.and_eq_true, decide_eq_true_eq] at hr
    refine ⟨p, q, Below.trod hl hr.1.1 hr.1.2 h1 hb (fun x hx => ?_), trodAll_stays hl hb ts vs ds q (by simpa using hr.2) h2, rfl⟩
    obtain ⟨m, hm⟩ := h1
    exact DataW.trod_lt m _ _ _ hm x hx

/-- THE ROW's END of a law: it answers true, what was there is as it was. -/
theorem law_post {f : Func} {s : ChangeSpec} {W W' : World} {args : Array Value} {ds gs : List (DataW H)} {before : List MemPlace} {tb : TypeId} (hvars : s.vars = []) (hfn : s.fn H ds = { results := [.lit (.bool true)], args := ds })
    (hres : f.resultTypes.toList = [tb]) (hsz : f.resultTypes.size = 1) (hb : P.underlying tb = some .bool) (hl : laidOutB P = true) (hr : (f.params.toList.all fun t => P.readableRec t && decide (t < P.types.size)) = true)
    (hW : DataW.Whole enc P f.params.toList s.vars false W args.toList ds gs before) (hbel : Below W.heap.size W W') : s.post enc P f false true false false W args (.bool true) W' := by
  have hW0 := hW
  obtain ⟨p, q, hA, hV, rfl, _, _⟩ := hW
  rw [hvars] at hV
  have hg : gs = [] := by cases gs with
    | nil => rfl
    | cons d g => exact hV.elim
  subst hg
  refine ⟨ds, [], _, [], p, [], hW0, ?_, ?_, ?_, hbel.frame _, fun h => by cases h⟩
  · rw [List.append_nil, hfn, hres, hsz]
    exact trodAll_mk1 (shut_bool hb _)
  · rw [List.append_nil, hfn]
    exact trodAll_stays hl hbel _ _ _ _ hr hA
  · rw [List.append_nil, hfn, hvars]
    exact rfl
end
#print axioms law_post
end Go.Proofs.YteeijjhgdplifaaGreatDoor
