/- Rows of texts that the call makes, two at a time; version.Sort. -/
import Derived.Test.YteeijjhgdplifaaDoorVn
namespace Go.Proofs.YteeijjhgdplifaaDoor
open Go.RowKit

/-- A slice of texts of the call's own, in a block from B on. -/
def LS (w : World) (B : Nat) (A : Option Addr) (c : Nat) (X : List (List UInt8)) : Prop := w.ownsRow 0 9 1 (.slice A X.length c) X.length (strsL X) ∧ ∀ b, (Value.slice A X.length c).ownBlock = some b → B ≤ b
theorem ownBlock_len (A : Option Addr) (n m c d : Nat) : (Value.slice A n c).ownBlock = (Value.slice A m d).ownBlock := by cases A <;> rfl
abbrev ob (A : Option Addr) : Option Nat := (Value.slice A 0 0).ownBlock
section
variable {w w' : World} {B c : Nat} {A : Option Addr} {X : List (List UInt8)}
theorem LS.own (h : LS w B A c X) : w.ownsRow 0 9 1 (.slice A X.length c) X.length (strsL X) := h.1
theorem LS.ge (h : LS w B A c X) {b : Nat} (hb : ob A = some b) : B ≤ b := h.2 b ((ownBlock_len _ _ _ _ _).trans hb)
theorem LS.lt (h : LS w B A c X) {b : Nat} (hb : ob A = some b) : b < w.heap.size := own_lt' h.1 ((ownBlock_len _ _ _ _ _).trans hb)
theorem LS.nil (w : World) (B : Nat) : LS w B none 0 [] := ⟨own_nil0 _ _ _, fun b h => by simp [Value.ownBlock] at h⟩
theorem LS.same (h : LS w B A c X) (ha : ∀ b, ob A = some b → w'.heap[b]? = w.heap[b]?) : LS w' B A c X :=
  ⟨own_agree h.1 (fun b hb => ha b ((ownBlock_len _ _ _ _ _).trans hb)), h.2⟩
theorem LS.below (h : LS w B A c X) (hb : Below w.heap.size w w') : LS w' B A c X := h.same fun b hv => hb.block b (h.lt hv)
theorem LS.sl (h : LS w B A c X) : Sl w (fun i => ob A = some i) 1 (.slice A X.length c) X.length (strsL X) :=
  (Sl.of_own h.1).mono (fun i _ hi => (ownBlock_len _ _ _ _ _).trans hi.1) (by decide)
end
/-- One text more at the end of such a slice. -/
theorem LS.push {w : World} {B c : Nat} {A : Option Addr} {X : List (List UInt8)} (h : LS w B A c X) (hB : B ≤ w.heap.size) (hX : X.length ≤ 1000000) (x : List UInt8) :
    ∃ A' c' w', (Builtin.append_ #[54, 54] 54 #[.slice A X.length c, .slice (some ⟨w.heap.size, 0, none⟩) 1 1]).run Tryd.prog (w.alloc (.cells #[.string (bl x)] 9)) = .ok (.slice A' (X.length + 1) c') w' ∧
      LS w' B A' c' (X ++ [x]) ∧ (w.alloc (.cells #[.string (bl x)] 9)).grownBy w' (ob A) ∧ (ob A' = ob A ∨ ob A' = some (w.heap.size + 1)) := by
  have ho := own_below h.1 (show Below w.heap.size w (w.alloc (.cells #[.string (bl x)] 9)) from (Below.refl _ _).alloc (Nat.le_refl _) _)
  obtain ⟨A7, c7, w7, hap, o7, gr7, a7, _⟩ := run_app (P := Tryd.prog) _ 54 54 9 (.string ⟨#[]⟩) 1 16 Tryd.underlying54 infoStr rfl (by decide) (by decide) (.slice A X.length c) X.length _ ho _ (.slice (some ⟨w.heap.size, 0, none⟩) 1 1) 1 [.string (bl x)] (Sl.one w 9 _) (by simp [Value.oneCell']) (by omega)
  have ha7 : ob A7 = ob A ∨ ob A7 = some (w.heap.size + 1) := by
    rcases a7 with h1 | h1
    · left; exact ((ownBlock_len _ _ _ _ _).trans h1).trans (ownBlock_len _ _ _ _ _)
    · right; exact ((ownBlock_len _ _ _ _ _).trans h1).trans (by simp)
  refine ⟨A7, c7, w7, hap, ⟨?_, ?_⟩, ?_, ha7⟩
  · have e : strsL (X ++ [x]) = strsL X ++ [.string (bl x)] := by simp [strsL]
    rw [e, List.length_append]
    exact o7
  · intro b hb
    have hb' : ob A7 = some b := (ownBlock_len _ _ _ _ _).trans hb
    rcases ha7 with h1 | h1
    · exact h.ge (h1 ▸ hb')
    · rw [h1] at hb'; injection hb' with hb'; omega
  · rw [show ob A = (Value.slice A X.length c).ownBlock from ownBlock_len _ _ _ _ _]
    exact gr7
/-- Two such slices, in blocks of their own. -/
def Two (w : World) (B : Nat) (A : Option Addr) (c : Nat) (X : List (List UInt8)) (A' : Option Addr) (c' : Nat) (Y : List (List UInt8)) : Prop := LS w B A c X ∧ LS w B A' c' Y ∧ ∀ b, ob A = some b → ob A' ≠ some b
theorem Two.symm {w : World} {B : Nat} {A A' : Option Addr} {c c' : Nat} {X Y : List (List UInt8)} (h : Two w B A c X A' c' Y) : Two w B A' c' Y A c X := ⟨h.2.1, h.1, fun b h1 h2 => h.2.2 b h2 h1⟩
theorem Two.below {w w' : World} {B : Nat} {A A' : Option Addr} {c c' : Nat} {X Y : List (List UInt8)} (h : Two w B A c X A' c' Y) (hb : Below w.heap.size w w') : Two w' B A c X A' c' Y := ⟨h.1.below hb, h.2.1.below hb, h.2.2⟩
theorem Two.push {w w0 : World} {A A' : Option Addr} {c c' : Nat} {X Y : List (List UInt8)} (h : Two w w0.heap.size A c X A' c' Y) (hb : Below w0.heap.size w0 w) (hX : X.length ≤ 1000000) (x : List UInt8) :
    ∃ A1 c1 w', (Builtin.append_ #[54, 54] 54 #[.slice A X.length c, .slice (some ⟨w.heap.size, 0, none⟩) 1 1]).run Tryd.prog (w.alloc (.cells #[.string (bl x)] 9)) = .ok (.slice A1 (X.length + 1) c1) w' ∧
      Two w' w0.heap.size A1 c1 (X ++ [x]) A' c' Y ∧ Below w0.heap.size w0 w' := by
  obtain ⟨A1, c1, w', hrun, h1, gr, ha⟩ := h.1.push hb.size hX x
  have hal : Below w.heap.size w (w.alloc (.cells #[.string (bl x)] 9)) := (Below.refl _ _).alloc (Nat.le_refl _) _
  have hs : (w.alloc (.cells #[.string (bl x)] 9)).heap.size = w.heap.size + 1 := by simp
  refine ⟨A1, c1, w', hrun, ⟨h1, (h.2.1.below hal).same (fun b hv => gr.block b (by have := h.2.1.lt hv; omega) (fun e => h.2.2 b e.symm hv)), ?_⟩, ?_⟩
  · intro b hv hv'
    rcases ha with e | e
    · exact h.2.2 b (e ▸ hv) hv'
    · rw [e] at hv; injection hv with hv
      have := h.2.1.lt hv'; omega
  · have h2 : Below w0.heap.size w0 (w.alloc (.cells #[.string (bl x)] 9)) := hb.alloc hb.size _
    exact h2.trans ⟨gr.os, gr.tape, gr.output, by have := gr.size; exact this, fun b hb' => gr.block b (by have := hb.size; omega) (fun e => by have := h.1.ge e.symm; omega)⟩

/-- what may be read of texts, and what not -/
def good (x : List UInt8) : Bool := (rv x).2 == 0
def vsort (X : List (List UInt8)) : List (List UInt8) := srt vle (X.filter good) ++ X.filter (fun x => !good x)
theorem vsort_length (X : List (List UInt8)) : (vsort X).length = X.length := by
  unfold vsort
  rw [List.length_append, srt_length]
  induction X with
  | nil => rfl
  | cons x X ih => cases h : good x <;> simp [h, List.filter_cons] <;> omega
theorem filter_snoc (p : List UInt8 → Bool) (X : List (List UInt8)) {i : Nat} {x : List UInt8} (hx : X[i]? = some x) : (X.take (i + 1)).filter p = (X.take i).filter p ++ if p x then [x] else [] := by
  obtain ⟨h1, h2⟩ := List.getElem?_eq_some_iff.1 hx
  rw [List.take_succ_eq_append_getElem h1, h2, List.filter_append]
  congr 1
  cases h : p x <;> simp [List.filter_cons, h]
theorem spot_none0 {w : World} {ad : Addr} {u : Value} (h : w.cell? (ad.add 0) = some u) : ad = ⟨ad.block, ad.off, none⟩ := by
  have e : ad.add 0 = ad := by unfold Addr.add; rfl
  rw [e] at h
  cases ad with
  | mk b o s =>
    cases s with
    | none => rfl
    | some k =>
      unfold World.cell? at h
      split at h
      · split at h
        · cases h
        · rename_i hs
          exact absurd rfl hs
      · cases h
theorem strsL_spot {w : World} {F : Nat → Prop} {A : Option Addr} {n c : Nat} {X : List (List UInt8)} (h : Sl w F 1 (.slice A n c) n (strsL X)) (hn : 0 < n) : ∃ b o, A = some ⟨b, o, none⟩ ∧ F b ∧ ∀ j s, X[j]? = some s → w.cell? ⟨b, o + j, none⟩ = some (.string (bl s)) := by
  obtain ⟨hl, A', c', hv, _, hcc⟩ := h
  obtain ⟨ad, hA, hF, hcell⟩ := hcc hn
  simp only [Value.slice.injEq] at hv
  have hl0 : 0 < X.length := by simp [strsL] at hl; omega
  have hsp := spot_none0 (hcell 0 _ (strsL_get (List.getElem?_eq_getElem hl0)))
  refine ⟨ad.block, ad.off, by rw [hv.1, hA, ← hsp], hF, fun j s hj => ?_⟩
  have := hcell j _ (strsL_get hj)
  rwa [hsp, add_lit0] at this

set_option maxRecDepth 100000 in
set_option maxHeartbeats 4000000 in
theorem vsort_ok (X : List (List UInt8)) (n : Nat) (hn : X.length = n) (hsh : Short X) (hX : n ≤ 1000000) (F : Nat → Prop) (A0 : Option Addr) (c0 : Nat) (w : World) (hg : GV w) (hs : Sl w F 1 (.slice A0 n c0) n (strsL X)) :
    Calls Tryd.prog 26 #[.slice A0 n c0] w fun e w' => ∃ A c, e = .returned (.slice A n c) ∧ LS w' w.heap.size A c (vsort X) ∧ Below w.heap.size w w' := by
  have HN := Lib.hid hn
  have HSH := Lib.hid hsh
  have HG := Lib.hid hg
  have HSL := Lib.hid hs
  have H0 : Hid (Two w w.heap.size none 0 ((X.take 0).filter good) none 0 ((X.take 0).filter (fun x => !good x))) := Lib.hid ⟨LS.nil _ _, LS.nil _ _, fun b h => by simp [Value.ownBlock] at h⟩
  have HB0 : Hid (Below w.heap.size w w) := Lib.hid (Below.refl _ _)
  have HI6 : Hid ((Tryd.prog.info? 24).map (·.size) = some 6) := Lib.hid (by kernel_rfl)
  clear hn hsh hg hs
  go_enter Tryd.func26, Tryd.ntmps26
  go_wp2_with fail
  go_loopg [11, 3, 4] n (fun kq iv rv' sv wr => ∃ (i : Nat) (A : Option Addr) (c r : Nat) (A' : Option Addr) (c' s : Nat), iv = .int .i64 i ∧ rv' = .slice A r c ∧ sv = .slice A' s c' ∧ i ≤ n ∧ kq = n - i ∧ Hid (r = 0 → A = none ∧ c = 0) ∧ Hid (((X.take i).filter good).length = r ∧ ((X.take i).filter (fun x => !good x)).length = s) ∧ Hid (Two wr w.heap.size A c ((X.take i).filter good) A' c' ((X.take i).filter (fun x => !good x))) ∧ Hid (Below w.heap.size w wr))
  case atStart => exact ⟨0, none, 0, 0, none, 0, 0, rfl, rfl, rfl, Nat.zero_le _, rfl, Lib.hid (fun _ => ⟨rfl, rfl⟩), Lib.hid ⟨rfl, rfl⟩, H0, HB0⟩
  case round =>
  clear H0 HB0
  obtain ⟨i, A, c, r, A', c', s, rfl, rfl, rfl, hi, rfl, HZR, HLn, H2, HB⟩ := hrel
  by_cases hlt : i < n
  · have hltI : (i : Int) < (n : Int) := by omega
    have hi0 : 0 ≤ (i : Int) := by omega
    obtain ⟨b0, o0, rfl, hF0, hc0⟩ := strsL_spot HSL.out (by omega)
    obtain ⟨x, hx⟩ : ∃ x, X[i]? = some x := ⟨_, List.getElem?_eq_getElem (by have := HN.out; omega)⟩
    have cx0 := hc0 i x hx
    have cx : wr.cell? ⟨b0, o0 + i, none⟩ = some (.string (bl x)) := (HB.out.cell (p := ⟨b0, o0 + i, none⟩) (World.block_lt_of_cell? w _ cx0)).trans cx0
    have HXX := Lib.hid hx
    have HXL : Hid ((bl x).size ≤ 4000000000) := Lib.hid (by rw [bl_size]; exact HSH.out.get hx)
    have HGR := Lib.hid (HG.out.below HB.out)
    obtain ⟨V, hV⟩ : ∃ V, V = (rv x).1 := ⟨_, rfl⟩
    obtain ⟨ve, hve⟩ : ∃ ve, ve = (rv x).2 := ⟨_, rfl⟩
    have HV := Lib.hid hV
    have HVE := Lib.hid hve
    have HVO : Hid V.Ok := Lib.hid (by rw [hV]; exact rv_okv _)
    have HIV : Hid ((Tryd.prog.info? 24).map (·.size) = some V.cells.toArray.size) := Lib.hid (by rw [Ver.cells_size HVO.out]; exact HI6.out)
    have HZV : Hid (Ver.zero.cells.toArray.size = V.cells.toArray.size) := Lib.hid (by rw [Ver.cells_size HVO.out]; rfl)
    clear hF0 hc0 cx0 hx hV hve
    go_wp2_with fail
    refine (parse_ok (bl x) HXL.out wr HGR.out).mono ?_
    rintro e w1 ⟨rfl, hb1⟩
    rw [bl_data, ← HV.out, ← HVE.out]
    obtain ⟨g7, hg7⟩ : ∃ g7, g7 = w1.heap.size := ⟨_, rfl⟩
    obtain ⟨w2, hw2⟩ : ∃ w2, w2 = (w1.alloc (.cells #[.int .i64 0, .int .i64 0, .int .i64 0, .int .i64 0, .int .i64 0, .string ⟨#[]⟩] 24)).setRow g7 V.cells.toArray := ⟨_, rfl⟩
    have q2 := laid_ver w1 V 24
    have bb2 : Below w1.heap.size w1 w2 := by rw [hw2, hg7]; exact q2.2
    have HZ2 : Hid ((w1.alloc (.cells #[.int .i64 0, .int .i64 0, .int .i64 0, .int .i64 0, .int .i64 0, .string ⟨#[]⟩] 24)).heap[g7]? = some (.cells Ver.zero.cells.toArray 24 (0, 0))) := Lib.hid (by rw [hg7]; exact heap_alloc_new _ _)
    have hb12 : Below wr.heap.size wr w2 := hb1.trans (bb2.mono hb1.size)
    have HT2 := Lib.hid (H2.out.below hb12)
    have HB2 : Hid (Below w.heap.size w w2) := Lib.hid (HB.out.trans (hb12.mono HB.out.size))
    have HG7 := Lib.hid hg7
    have HW2 := Lib.hid hw2
    clear hg7 hw2 q2 bb2 hb1 hb12 H2 HB HGR cx
    rw [show V.val = .agg V.cells.toArray from rfl]
    go_upto_region 6 with (refine wpList_store_row rfl 24 (.tmp 7) (.tmp 18) rfl g7 V.cells.toArray (by rw [HG7.out]; rfl) rfl _ _ HZ2.out HIV.out HZV.out (Ver.cells_one _) ?_)
    rw [← HG7.out, ← HW2.out]
    cases hgd : good x with
    | true =>
      have hv0 : ve = 0 := by rw [HVE.out]; simpa [good] using hgd
      subst hv0
      have hr : ((X.take i).filter good).length = r := HLn.out.1
      obtain ⟨A1, c1, w3, hap, ht3, hb3⟩ := HT2.out.push HB2.out (by have := List.length_filter_le good (X.take i); have := List.length_take_le i X; omega) x
      rw [hr] at hap
      have f1 := filter_snoc good X HXX.out
      rw [hgd, if_pos rfl] at f1
      have f2 := filter_snoc (fun x => !good x) X HXX.out
      simp only [hgd, Bool.not_true, Bool.false_eq_true, if_false, List.append_nil] at f2
      have g1 : Hid (Two w3 w.heap.size A1 c1 ((X.take (i + 1)).filter good) A' c' ((X.take (i + 1)).filter (fun x => !good x))) := Lib.hid (by rw [f1, f2]; exact ht3)
      have g2 : Hid (((X.take (i + 1)).filter good).length = r + 1 ∧ ((X.take (i + 1)).filter (fun x => !good x)).length = s) := Lib.hid ⟨by rw [f1, List.length_append, hr]; rfl, by rw [f2]; exact HLn.out.2⟩
      have g3 := Lib.hid hb3
      have HAP := Lib.hid hap
      clear hr hap ht3 hb3 f1 f2 hgd HLn HT2 HB2
      go_wp2_with (at_builtin; refine wpList_app_run _ rfl (.tmp 22) (.tmp 24) 54 54 rfl _ _ rfl rfl _ _ HAP.out ?_)
      go_roundg (n - (i + 1))
      case measure => omega
      case rel => exact ⟨i + 1, A1, c1, r + 1, A', c', s, by go_num, rfl, rfl, by omega, rfl, Lib.hid (fun h => by omega), g2, g1, g3⟩
    | false =>
      have hv0 : ¬ ve = 0 := by rw [HVE.out]; simpa [good] using hgd
      have hv1 : (ve == 0) = false := by simpa using hv0
      have hr : ((X.take i).filter (fun x => !good x)).length = s := HLn.out.2
      obtain ⟨A1, c1, w3, hap, ht3, hb3⟩ := HT2.out.symm.push HB2.out (by have := List.length_filter_le (fun x => !good x) (X.take i); have := List.length_take_le i X; omega) x
      rw [hr] at hap
      have f1 := filter_snoc (fun x => !good x) X HXX.out
      simp only [hgd, Bool.not_false, if_true] at f1
      have f2 := filter_snoc good X HXX.out
      simp only [hgd, Bool.false_eq_true, if_false, List.append_nil] at f2
      have g1 : Hid (Two w3 w.heap.size A c ((X.take (i + 1)).filter good) A1 c1 ((X.take (i + 1)).filter (fun x => !good x))) := Lib.hid (by rw [f1, f2]; exact ht3.symm)
      have g2 : Hid (((X.take (i + 1)).filter good).length = r ∧ ((X.take (i + 1)).filter (fun x => !good x)).length = s + 1) := Lib.hid ⟨by rw [f2]; exact HLn.out.1, by rw [f1, List.length_append, hr]; rfl⟩
      have g3 := Lib.hid hb3
      have HAP := Lib.hid hap
      clear hr hap ht3 hb3 f1 f2 hgd HLn HT2 HB2
      go_wp2_with (at_builtin; refine wpList_app_run _ rfl (.tmp 26) (.tmp 28) 54 54 rfl _ _ rfl rfl _ _ HAP.out ?_)
      go_roundg (n - (i + 1))
      case measure => omega
      case rel => exact ⟨i + 1, A, c, r, A1, c1, s + 1, by go_num, rfl, rfl, by omega, rfl, HZR, g2, g1, g3⟩
  have hni : ¬ (i : Int) < (n : Int) := by omega
  have hin : i = n := by omega
  obtain ⟨G, hG⟩ : ∃ G, G = X.filter good := ⟨_, rfl⟩
  obtain ⟨T, hT⟩ : ∃ T, T = X.filter (fun x => !good x) := ⟨_, rfl⟩
  have htk : X.take i = X := List.take_of_length_le (by have := HN.out; omega)
  have hlen := HLn.out
  have ht := H2.out
  rw [htk, ← hG, ← hT] at hlen ht
  have hrs : r + s = n := by
    have := vsort_length X
    unfold vsort at this
    rw [← hG, ← hT, List.length_append, srt_length] at this
    have := HN.out
    omega
  have HVS : Hid (vsort X = srt vle G ++ T) := Lib.hid (by unfold vsort; rw [hG, hT])
  have HGS : Hid (Short G) := Lib.hid (by rw [hG]; exact HSH.out.sub (fun y hy => (List.mem_filter.1 hy).1))
  have HLN := Lib.hid hlen
  have HT2 := Lib.hid ht
  have HRS := Lib.hid hrs
  clear hG hT htk hlen ht hrs hin H2 HLn
  -- what stands behind the sorting
  have hfin : ∀ w3 A3 c3 r3, r3 = r → Two w3 w.heap.size A3 c3 (srt vle G) A' c' T → Below w.heap.size w w3 → ∃ A9 c9 w9, (Builtin.append_ #[54, 54] 54 #[.slice A3 r3 c3, .slice A' s c']).run Tryd.prog w3 = .ok (.slice A9 n c9) w9 ∧ LS w9 w.heap.size A9 c9 (vsort X) ∧ Below w.heap.size w w9 := by
    intro w3 A3 c3 r3 hr3 h3 hb3
    subst hr3
    have h1 := h3.1.own
    rw [srt_length, HLN.out.1] at h1
    have h2 := h3.2.1.sl
    rw [HLN.out.2] at h2
    obtain ⟨A7, c7, w7, hap, o7, gr7, a7, _⟩ := run_app (P := Tryd.prog) w3 54 54 9 (.string ⟨#[]⟩) 1 16 Tryd.underlying54 infoStr rfl (by decide) (by decide) (.slice A3 r3 c3) r3 _ h1 _ (.slice A' s c') s (strsL T) h2 (strsL_one _) (by have := HRS.out; omega)
    have ha7 : ob A7 = ob A3 ∨ ob A7 = some w3.heap.size := by
      rcases a7 with h | h
      · left; exact ((ownBlock_len _ _ _ _ _).trans h).trans (ownBlock_len _ _ _ _ _)
      · right; exact (ownBlock_len _ _ _ _ _).trans h
    rw [HRS.out] at hap o7
    refine ⟨A7, c7, w7, hap, ⟨?_, ?_⟩, ?_⟩
    · rw [HVS.out, show (srt vle G ++ T).length = n by rw [List.length_append, srt_length, HLN.out.1, HLN.out.2]; exact HRS.out, show strsL (srt vle G ++ T) = strsL (srt vle G) ++ strsL T by simp [strsL]]
      exact o7
    · intro b hb
      have hb' : ob A7 = some b := (ownBlock_len _ _ _ _ _).trans hb
      rcases ha7 with h | h
      · exact h3.1.ge (h ▸ hb')
      · rw [h] at hb'; injection hb' with hb'; have := hb3.size; omega
    · exact hb3.trans ⟨gr7.os, gr7.tape, gr7.output, gr7.size, fun b hb' => gr7.block b (by have := hb3.size; omega) (fun e => by have := h3.1.ge (b := b) ((ownBlock_len _ _ _ _ _).trans e.symm); omega)⟩
  have HFIN := Lib.hid hfin
  by_cases hr0 : r = 0
  · obtain ⟨rfl, rfl⟩ := HZR.out hr0
    subst hr0
    have hGn : G = [] := List.length_eq_zero_iff.1 HLN.out.1
    obtain ⟨A9, c9, w9, hap, h9, hb9⟩ := HFIN.out wr none 0 0 rfl (by rw [hGn]; have := HT2.out; rw [hGn] at this; exact this) HB.out
    have HAP := Lib.hid hap
    have H9 := Lib.hid h9
    have HB9 := Lib.hid hb9
    clear hGn hap h9 hb9 hfin HFIN HT2 HLN HRS HGS HVS
    go_wp2_with fail
    refine (sortStable_nil _).mono ?_
    rintro e w2 ⟨rfl, rfl⟩
    go_wp2_with (at_builtin; refine wpList_app_run _ rfl (.tmp 33) (.tmp 34) 54 54 rfl _ _ rfl rfl _ _ HAP.out ?_)
    go_ret
    exact ⟨A9, c9, rfl, H9.out, HB9.out⟩
  · have ho := HT2.out.1.own
    rw [HLN.out.1] at ho
    rcases ho.2 with ⟨_, h0⟩ | ⟨g, cap, cur, hv, _, hg, hrc, hcm, hcs, htk⟩
    · omega
    simp only [Value.slice.injEq] at hv
    obtain ⟨rfl, _, rfl⟩ := hv
    obtain ⟨sl, hsl⟩ : ∃ sl, sl = cur.toList.drop r := ⟨_, rfl⟩
    have hcur : strsL G ++ sl = cur.toList := by
      rw [Nat.mul_one] at htk
      rw [hsl, ← htk, List.take_append_drop]
    have hrow : Row wr g sl G := by
      unfold Row Blk
      rw [hcur]; exact hg
    have hge : w.heap.size ≤ g := HT2.out.1.ge rfl
    have hsll : r + sl.length = c := by
      have := congrArg List.length hcur
      have h1 : (strsL G ++ sl).length = (strsL G).length + sl.length := List.length_append
      have h2 : cur.toList.length = c * 1 := by rw [← hcs]; exact Array.length_toList
      have hGl : (strsL G).length = r := by simp [strsL, HLN.out.1]
      omega
    have HFN : Hid (∀ w3, Row w3 g sl (srt vle G) → Mod (fun i => i = g) wr w3 → ∃ A9 c9 w9, (Builtin.append_ #[54, 54] 54 #[.slice (some ⟨g, 0, none⟩) r c, .slice A' s c']).run Tryd.prog w3 = .ok (.slice A9 n c9) w9 ∧ LS w9 w.heap.size A9 c9 (vsort X) ∧ Below w.heap.size w w9) := Lib.hid (by
      intro w3 hr3 hm3
      refine HFIN.out w3 (some ⟨g, 0, none⟩) c r rfl ⟨⟨?_, fun b hb => ?_⟩, ?_, ?_⟩ ?_
      · have hl : (srt vle G).length = r := by rw [srt_length]; exact HLN.out.1
        rw [hl]
        have hl2 : (strsL (srt vle G)).length = r := by simp [strsL, hl]
        refine ⟨by rw [Nat.mul_one]; exact hl2, .inr ⟨g, c, _, rfl, Nat.zero_le _, hr3, hrc, hcm, ?_, ?_⟩⟩
        · rw [List.size_toArray, List.length_append, hl2, Nat.mul_one]; exact hsll
        · rw [Nat.mul_one, ← hl2, List.take_left]
      · have hb' : ob (some ⟨g, 0, none⟩) = some b := (ownBlock_len _ _ _ _ _).trans hb
        injection hb' with hb'
        rw [← hb']; exact hge
      · exact HT2.out.2.1.same (fun b hv => hm3.block b (HT2.out.2.1.lt hv) (fun e => HT2.out.2.2 g rfl (e ▸ hv)))
      · exact HT2.out.2.2
      · exact HB.out.trans (hm3.below HB.out.size (fun i hi => by rw [hi]; exact hge)))
    have HSS := Lib.hid (sortStable_ok w g sl G r c HLN.out.1 (by have := HRS.out; omega) hrc HGS.out wr ⟨HG.out, HB.out, hge⟩ hrow)
    clear ho hg hrc hcm hcs htk hsl hcur hrow hge hsll hfin HFIN HT2 HLN HRS HGS HVS hr0
    go_wp2_with fail
    refine (HSS.out).mono ?_
    rintro e w3 ⟨rfl, k1, k2⟩
    obtain ⟨A9, c9, w9, hap, h9, hb9⟩ := HFN.out w3 k1 k2
    have HAP := Lib.hid hap
    have H9 := Lib.hid h9
    have HB9 := Lib.hid hb9
    clear k1 k2 hap h9 hb9
    go_wp2_with (at_builtin; refine wpList_app_run _ rfl (.tmp 33) (.tmp 34) 54 54 rfl _ _ rfl rfl _ _ HAP.out ?_)
    go_ret
    exact ⟨A9, c9, rfl, H9.out, HB9.out⟩
end Go.Proofs.YteeijjhgdplifaaDoor
