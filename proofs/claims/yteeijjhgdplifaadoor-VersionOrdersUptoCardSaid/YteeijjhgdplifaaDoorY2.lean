/- The document's Sort. -/
import Derived.Test.YteeijjhgdplifaaDoorY4
import Derived.Test.YteeijjhgdplifaaDoorVm
namespace Go.Proofs.YteeijjhgdplifaaDoor
open Go.RowKit

theorem LS.take {w : World} {B c : Nat} {A : Option Addr} {R : List (List UInt8)} (h : LS w B A c R) {k : Nat} (hk : k ≤ R.length) : LS w B A c (R.take k) := by
  have hl : (R.take k).length = k := by rw [List.length_take]; omega
  refine ⟨?_, fun b hb => h.ge ((ownBlock_len _ _ _ _ _).trans hb)⟩
  rw [hl]
  have := own_take h.1 hk
  rw [Nat.mul_one, show (strsL R).take k = strsL (R.take k) by simp [strsL, List.map_take]] at this
  exact this
theorem Two.join {w w0 : World} {A A' : Option Addr} {c c' : Nat} {R T : List (List UInt8)} {r s : Nat} (h : Two w w0.heap.size A c R A' c' T) (hb : Below w0.heap.size w0 w) (hr : R.length = r) (hs : T.length = s) (hX : r + s ≤ 1000000) :
    ∃ A9 c9 w9, (Builtin.append_ #[54, 54] 54 #[.slice A r c, .slice A' s c']).run Tryd.prog w = .ok (.slice A9 (r + s) c9) w9 ∧ LS w9 w0.heap.size A9 c9 (R ++ T) ∧ w.grownBy w9 (ob A) ∧ (ob A9 = ob A ∨ ob A9 = some w.heap.size) ∧ Below w0.heap.size w0 w9 := by
  subst hr
  subst hs
  obtain ⟨A7, c7, w7, hap, o7, gr7, a7, _⟩ := run_app (P := Tryd.prog) w 54 54 9 (.string ⟨#[]⟩) 1 16 Tryd.underlying54 infoStr rfl (by decide) (by decide) (.slice A R.length c) R.length _ h.1.1 _ (.slice A' T.length c') T.length (strsL T) h.2.1.sl (strsL_one _) (by omega)
  have ha7 : ob A7 = ob A ∨ ob A7 = some w.heap.size := by
    rcases a7 with h1 | h1
    · left; exact ((ownBlock_len _ _ _ _ _).trans h1).trans (ownBlock_len _ _ _ _ _)
    · right; exact (ownBlock_len _ _ _ _ _).trans h1
  refine ⟨A7, c7, w7, hap, ⟨?_, ?_⟩, ?_, ha7, ?_⟩
  · rw [List.length_append, show strsL (R ++ T) = strsL R ++ strsL T by simp [strsL]]
    exact o7
  · intro b hb'
    have hb7 : ob A7 = some b := (ownBlock_len _ _ _ _ _).trans hb'
    rcases ha7 with h1 | h1
    · exact h.1.ge (h1 ▸ hb7)
    · rw [h1] at hb7; injection hb7 with hb7; have := hb.size; omega
  · rw [show ob A = (Value.slice A R.length c).ownBlock from ownBlock_len _ _ _ _ _]
    exact gr7
  · exact hb.trans ⟨gr7.os, gr7.tape, gr7.output, gr7.size, fun b hb' => gr7.block b (by have := hb.size; omega) (fun e => by have := h.1.ge (b := b) ((ownBlock_len _ _ _ _ _).trans e.symm); omega)⟩
/-- One text put into a slice of the call's own, ahead of a copy of what stood behind. -/
theorem Two.insert {w w0 : World} {A A' At : Option Addr} {c c' ct : Nat} {R T : List (List UInt8)} {r k : Nat} (h : Two w w0.heap.size A c R A' c' T) (hb : Below w0.heap.size w0 w) (hr : R.length = r) (hk : k ≤ r) (hX : r < 1000000) (x : List UInt8)
    (ht : LS w w0.heap.size At ct (R.drop k)) (hta : ∀ b, ob At = some b → ob A ≠ some b ∧ ob A' ≠ some b) :
    ∃ A1 c1 w1 A2 c2 w2, (Builtin.append_ #[54, 54] 54 #[.slice A k c, .slice (some ⟨w.heap.size, 0, none⟩) 1 1]).run Tryd.prog (w.alloc (.cells #[.string (bl x)] 9)) = .ok (.slice A1 (k + 1) c1) w1 ∧
      (Builtin.append_ #[54, 54] 54 #[.slice A1 (k + 1) c1, .slice At (r - k) ct]).run Tryd.prog w1 = .ok (.slice A2 (r + 1) c2) w2 ∧
      Two w2 w0.heap.size A2 c2 (R.take k ++ (x :: R.drop k)) A' c' T ∧ Below w0.heap.size w0 w2 := by
  have hlk : (R.take k).length = k := by rw [List.length_take]; omega
  have h0 : Two w w0.heap.size A c (R.take k) A' c' T := ⟨h.1.take (by omega), h.2.1, h.2.2⟩
  have hal : Below w.heap.size w (w.alloc (.cells #[.string (bl x)] 9)) := (Below.refl _ _).alloc (Nat.le_refl _) _
  have hs : (w.alloc (.cells #[.string (bl x)] 9)).heap.size = w.heap.size + 1 := by simp
  obtain ⟨A1, c1, w1, hrun, h1, gr, ha⟩ := h0.1.push hb.size (by omega) x
  rw [hlk] at hrun
  have hb1 : Below w0.heap.size w0 w1 := (hb.alloc hb.size _).trans ⟨gr.os, gr.tape, gr.output, by have := gr.size; have := hb.size; omega, fun b hb' => gr.block b (by have := hb.size; omega) (fun e => by have := h.1.ge e.symm; omega)⟩
  have hkeep : ∀ {B' : Nat} {Ax cx Xx}, LS w B' Ax cx Xx → (∀ b, ob Ax = some b → ob A ≠ some b) → LS w1 B' Ax cx Xx := fun hx hne =>
    (hx.below hal).same (fun b hv => gr.block b (by have := hx.lt hv; omega) (fun e => hne b hv e.symm))
  have hT1 := hkeep h.2.1 (fun b hv e => h.2.2 b e hv)
  have ht1 := hkeep ht (fun b hv => (hta b hv).1)
  have hne : ∀ b, ob A1 = some b → ob At ≠ some b := by
    intro b hv hv'
    rcases ha with e | e
    · exact (hta b hv').1 (e ▸ hv)
    · rw [e] at hv; injection hv with hv
      have := ht.lt hv'; omega
  have hneT : ∀ b, ob A1 = some b → ob A' ≠ some b := by
    intro b hv hv'
    rcases ha with e | e
    · exact h.2.2 b (e ▸ hv) hv'
    · rw [e] at hv; injection hv with hv
      have := h.2.1.lt hv'; omega
  have h2 : Two w1 w0.heap.size A1 c1 (R.take k ++ [x]) At ct (R.drop k) := ⟨h1, ht1, hne⟩
  obtain ⟨A2, c2, w2, hrun2, h3, gr2, ha2, hb2⟩ := h2.join hb1 (r := k + 1) (s := r - k) (by rw [List.length_append, hlk]; rfl) (by rw [List.length_drop]; omega) (by omega)
  rw [show k + 1 + (r - k) = r + 1 by omega] at hrun2
  refine ⟨A1, c1, w1, A2, c2, w2, hrun, hrun2, ⟨?_, ?_, ?_⟩, hb2⟩
  · rw [List.append_assoc] at h3; exact h3
  · exact hT1.same (fun b hv => gr2.block b (hT1.lt hv) (fun e => hneT b e.symm hv))
  · intro b hv hv'
    rcases ha2 with e | e
    · exact hneT b (e ▸ hv) hv'
    · rw [e] at hv; injection hv with hv
      have := hT1.lt hv'; omega
/-- A slice's end. -/
theorem LS.drop_sl {w : World} {B c : Nat} {A : Option Addr} {R : List (List UInt8)} (h : LS w B A c R) {k r : Nat} (hr : R.length = r) (hk : k ≤ r) :
    (A = none ∧ R = [] ∧ c = 0) ∨ ∃ g, A = some ⟨g, 0, none⟩ ∧ r ≤ c ∧ Sl w (fun i => i = g) 1 (.slice (some ⟨g, k, none⟩) (r - k) (c - k)) (r - k) (strsL (R.drop k)) ∧ (c = k → Sl w (fun i => i = g) 1 (.slice (some ⟨g, 0, none⟩) (r - k) (c - k)) (r - k) (strsL (R.drop k))) := by
  subst hr
  rcases h.1.2 with ⟨hv, h0⟩ | ⟨g, cap, cur, hv, _, hg, hn, _, hcs, htk⟩
  · left
    simp only [Value.slice.injEq] at hv
    exact ⟨hv.1, List.length_eq_zero_iff.1 h0, hv.2.2⟩
  · right
    simp only [Value.slice.injEq] at hv
    obtain ⟨rfl, _, rfl⟩ := hv
    have hl : (strsL (R.drop k)).length = R.length - k := by simp [strsL]
    refine ⟨g, rfl, hn, ⟨by rw [hl, Nat.mul_one], _, _, rfl, by omega, fun _ => ⟨_, rfl, rfl, fun j u hu => ?_⟩⟩, fun hck => ⟨by rw [hl, Nat.mul_one], _, _, rfl, by omega, fun h0 => by omega⟩⟩
    rw [add_lit0]
    have hu' : (strsL R)[k + j]? = some u := by
      have e : strsL (R.drop k) = (strsL R).drop k := by simp [strsL, List.map_drop]
      rw [e, List.getElem?_drop] at hu
      exact hu
    rw [cell_of_row w g (k + j) cur 9 (0, 0) hg]
    rw [← htk, List.getElem?_take] at hu'
    split at hu'
    · simpa using hu'
    · cases hu'
theorem runs_app_run {P : Program} {ops : Array Oper} {o : Oper} {a : Act} {w : World} {R : Value → World → Prop} (hgd : o.guard = none) (s x : Operand) (t t' : TypeId)
    (ho : o.op = .call { callee := .builtin .append, args := #[s, x], argTypes := #[t, t'] }) (vs vx : Value) (hs : a.eval s = vs) (hx : a.eval x = vx) (r : Value) (w' : World) (hrun : (Builtin.append_ #[t, t'] o.type #[vs, vx]).run P w = .ok r w')
    (h : R r w') : Runs P ops o a w R := by
  unfold Runs Region.wanted
  rw [hgd]
  show Out P R ((execOp a.eval o).run P w)
  unfold execOp
  simp only [ho, resolve, invoke, builtin, Sem.run_bind, Sem.run_pure, Result.andThen_ok, List.map_toArray, List.map_cons, List.map_nil, hs, hx, hrun]
  exact h

set_option maxRecDepth 100000 in
set_option maxHeartbeats 8000000 in
theorem refSort_ok (X : List (List UInt8)) (n : Nat) (hn : X.length = n) (hsh : Short X) (hX : n ≤ 1000000) (F : Nat → Prop) (A0 : Option Addr) (c0 : Nat) (w : World) (hs : Sl w F 1 (.slice A0 n c0) n (strsL X)) :
    Calls Tryd.prog 27 #[.slice A0 n c0] w fun e w' => ∃ A c, e = .returned (.slice A n c) ∧ LS w' w.heap.size A c (vsort X) ∧ Below w.heap.size w w' := by
  have HN := Lib.hid hn
  have HSH := Lib.hid hsh
  have HSL := Lib.hid hs
  have H0 : Hid (Two w w.heap.size none 0 (srt vle ((X.take 0).filter good)) none 0 ((X.take 0).filter (fun x => !good x))) := Lib.hid ⟨LS.nil _ _, LS.nil _ _, fun b h => by simp [Value.ownBlock] at h⟩
  have HB0 : Hid (Below w.heap.size w w) := Lib.hid (Below.refl _ _)
  have HI6 : Hid ((Tryd.prog.info? 30).map (·.size) = some 6) := Lib.hid (by kernel_rfl)
  clear hn hsh hs
  go_enter Tryd.func27, Tryd.ntmps27
  go_wp2_with fail
  go_loopg [5, 3, 4] n (fun kq iv rv' sv wr => ∃ (i : Nat) (A : Option Addr) (c r : Nat) (A' : Option Addr) (c' s : Nat), iv = .int .i64 i ∧ rv' = .slice A r c ∧ sv = .slice A' s c' ∧ i ≤ n ∧ kq = n - i ∧ Hid (((X.take i).filter good).length = r ∧ ((X.take i).filter (fun x => !good x)).length = s) ∧ Hid (Two wr w.heap.size A c (srt vle ((X.take i).filter good)) A' c' ((X.take i).filter (fun x => !good x))) ∧ Hid (Below w.heap.size w wr))
  case atStart => exact ⟨0, none, 0, 0, none, 0, 0, rfl, rfl, rfl, Nat.zero_le _, rfl, Lib.hid ⟨rfl, rfl⟩, H0, HB0⟩
  case round =>
  clear H0 HB0
  obtain ⟨i, A, c, r, A', c', s, rfl, rfl, rfl, hi, rfl, HLn, H2, HB⟩ := hrel
  by_cases hlt : i < n
  · have hltI : (i : Int) < (n : Int) := by omega
    have hi0 : 0 ≤ (i : Int) := by omega
    obtain ⟨b0, o0, rfl, hrx⟩ := reads_of HSL.out (by omega)
    obtain ⟨x, hx⟩ : ∃ x, X[i]? = some x := ⟨_, List.getElem?_eq_getElem (by have := HN.out; omega)⟩
    have HRX : Hid (∀ wI, Below w.heap.size w wI → wI.cell? ⟨b0, o0 + i, none⟩ = some (.string (bl x))) := Lib.hid (fun wI hb => hrx wI hb i x hx)
    have cx := HRX.out wr HB.out
    have HXX := Lib.hid hx
    have HXL : Hid ((bl x).size ≤ 4000000000) := Lib.hid (by rw [bl_size]; exact HSH.out.get hx)
    obtain ⟨Vx, hVx⟩ : ∃ Vx, Vx = (rv x).1 := ⟨_, rfl⟩
    obtain ⟨ex, hex⟩ : ∃ ex, ex = (rv x).2 := ⟨_, rfl⟩
    have HVx := Lib.hid hVx
    have HEx := Lib.hid hex
    have HVOx : Hid Vx.Ok := Lib.hid (by rw [hVx]; exact rv_okv _)
    have HIVx : Hid ((Tryd.prog.info? 30).map (·.size) = some Vx.cells.toArray.size) := Lib.hid (by rw [Ver.cells_size HVOx.out]; exact HI6.out)
    have HZVx : Hid (Ver.zero.cells.toArray.size = Vx.cells.toArray.size) := Lib.hid (by rw [Ver.cells_size HVOx.out]; rfl)
    clear hVx hex
    have hrn : r ≤ i := by have := HLn.out.1; have := List.length_filter_le good (X.take i); have := List.length_take_le i X; omega
    have hsn : s ≤ n := by have := HLn.out.2; have := List.length_filter_le (fun x => !good x) (X.take i); have := List.length_take_le i X; omega
    clear hrx hx
    go_wp2_with fail
    refine (refParse_ok (bl x) HXL.out wr).mono ?_
    rintro e wxa ⟨rfl, hbxa⟩
    rw [bl_data, ← HVx.out, ← HEx.out]
    obtain ⟨gx, hgx⟩ : ∃ gx, gx = wxa.heap.size := ⟨_, rfl⟩
    obtain ⟨w2, hwx⟩ : ∃ w2, w2 = (wxa.alloc (.cells #[.int .i64 0, .int .i64 0, .int .i64 0, .int .i64 0, .int .i64 0, .string ⟨#[]⟩] 30)).setRow gx Vx.cells.toArray := ⟨_, rfl⟩
    have qx := laid_ver wxa Vx 30
    have bbx : Below wxa.heap.size wxa w2 := by rw [hwx, hgx]; exact qx.2
    have HZx : Hid ((wxa.alloc (.cells #[.int .i64 0, .int .i64 0, .int .i64 0, .int .i64 0, .int .i64 0, .string ⟨#[]⟩] 30)).heap[gx]? = some (.cells Ver.zero.cells.toArray 30 (0, 0))) := Lib.hid (by rw [hgx]; exact heap_alloc_new _ _)
    have HQx : Hid (Blk w2 gx 30 Vx.cells) := Lib.hid (by rw [hwx, hgx]; exact qx.1)
    have HBWx : Hid (Below wr.heap.size wr w2) := Lib.hid (hbxa.trans (bbx.mono hbxa.size))
    have HBNx : Hid (Below w.heap.size w w2) := Lib.hid (HB.out.trans (HBWx.out.mono HB.out.size))
    have HGx := Lib.hid hgx
    have HWx := Lib.hid hwx
    clear hgx hwx qx bbx hbxa
    rw [show Vx.val = .agg Vx.cells.toArray from rfl]
    go_upto_region 6 with (refine wpList_store_row rfl 30 (.tmp 6) (.tmp 24) rfl gx Vx.cells.toArray (by rw [HGx.out]; rfl) rfl _ _ HZx.out HIVx.out HZVx.out (Ver.cells_one _) ?_)
    rw [← HGx.out, ← HWx.out]
    have HT2 := Lib.hid (H2.out.below HBWx.out)
    clear cx H2 HB
    cases hgd : good x with
    | false =>
      have hv0 : ¬ ex = 0 := by rw [HEx.out]; simpa [good] using hgd
      have hv1 : (ex == 0) = false := by simpa using hv0
      have hr : ((X.take i).filter (fun x => !good x)).length = s := HLn.out.2
      obtain ⟨A1, c1, w3, hap, ht3, hb3⟩ := HT2.out.symm.push HBNx.out (by omega) x
      rw [hr] at hap
      have f1 := filter_snoc (fun x => !good x) X HXX.out
      simp only [hgd, Bool.not_false, if_true] at f1
      have f2 := filter_snoc good X HXX.out
      simp only [hgd, Bool.false_eq_true, if_false, List.append_nil] at f2
      have g1 : Hid (Two w3 w.heap.size A c (srt vle ((X.take (i + 1)).filter good)) A1 c1 ((X.take (i + 1)).filter (fun x => !good x))) := Lib.hid (by rw [f1, f2]; exact ht3.symm)
      have g2 : Hid (((X.take (i + 1)).filter good).length = r ∧ ((X.take (i + 1)).filter (fun x => !good x)).length = s + 1) := Lib.hid ⟨by rw [f2]; exact HLn.out.1, by rw [f1, List.length_append, hr]; rfl⟩
      have g3 := Lib.hid hb3
      have HAP := Lib.hid hap
      have cx := HRX.out w2 HBNx.out
      clear hr hap ht3 hb3 f1 f2 hgd HLn HT2 HBNx
      go_wp2_with (at_builtin; refine wpList_app_run _ rfl (.tmp 28) (.tmp 33) 54 54 rfl _ _ rfl rfl _ _ HAP.out ?_)
      go_roundg (n - (i + 1))
      case measure => omega
      case rel => exact ⟨i + 1, A, c, r, A1, c1, s + 1, by go_num, rfl, rfl, by omega, rfl, g2, g1, g3⟩
    | true =>
      have hv0 : ex = 0 := by rw [HEx.out]; simpa [good] using hgd
      subst hv0
      obtain ⟨R, hR⟩ : ∃ R, R = srt vle ((X.take i).filter good) := ⟨_, rfl⟩
      obtain ⟨T, hT⟩ : ∃ T, T = (X.take i).filter (fun x => !good x) := ⟨_, rfl⟩
      have hRl : R.length = r := by rw [hR, srt_length]; exact HLn.out.1
      have ht2 := HT2.out
      rw [← hR, ← hT] at ht2
      have f1 := filter_snoc good X HXX.out
      rw [hgd, if_pos rfl] at f1
      have f2 := filter_snoc (fun x => !good x) X HXX.out
      simp only [hgd, Bool.not_true, Bool.false_eq_true, if_false, List.append_nil] at f2
      have HRr : Hid (Ris vle R) := Lib.hid (by rw [hR]; exact srt_ris vle_pre _)
      have HRS : Hid (Short R) := Lib.hid (by rw [hR]; exact (HSH.out.sub (fun y hy => List.mem_of_mem_take (List.mem_filter.1 hy).1)).perm (srt_perm _))
      have HNX : Hid (∀ k, (∀ y ∈ R.take k, vle y x = true) → (∀ y ∈ R.drop k, vle y x = false) → ∀ w9 A2 c2, Two w9 w.heap.size A2 c2 (R.take k ++ (x :: R.drop k)) A' c' T → Two w9 w.heap.size A2 c2 (srt vle ((X.take (i + 1)).filter good)) A' c' ((X.take (i + 1)).filter (fun x => !good x))) := Lib.hid (by
        intro k h1 h2 w9 A2 c2 h
        rw [f1, f2, srt_snoc, ← hR, ← hT]
        have e : mrg vle R [x] = R.take k ++ (x :: R.drop k) := by
          have := mrg_one h1 h2
          rw [List.take_append_drop] at this
          exact this
        rw [e]; exact h)
      have g2 : Hid (((X.take (i + 1)).filter good).length = r + 1 ∧ ((X.take (i + 1)).filter (fun x => !good x)).length = s) := Lib.hid ⟨by rw [f1, List.length_append, HLn.out.1]; rfl, by rw [f2]; exact HLn.out.2⟩
      have HRL := Lib.hid hRl
      have HTW := Lib.hid ht2
      clear hR hT hRl ht2 f1 f2 hgd HT2 HLn
      go_upto_block 2 with fail
      go_cut [8] (fun kv wx => ∃ k : Nat, kv = .int .i64 k ∧ k ≤ r ∧ Hid (∀ y ∈ R.take k, vle y x = true) ∧ Hid (∀ y ∈ R.drop k, vle y x = false) ∧ Hid (Two wx w.heap.size A c R A' c' T) ∧ Hid (Below w.heap.size w wx))
      case first =>
        have HK0 : Hid (∀ y ∈ R.take 0, vle y x = true) := Lib.hid (by simp)
        go_wp2_with fail
        go_loopg [8] r (fun kq kv wr => ∃ k : Nat, kv = .int .i64 k ∧ k ≤ r ∧ kq = r - k ∧ Hid (∀ y ∈ R.take k, vle y x = true) ∧ Hid (Blk wr gx 30 Vx.cells) ∧ Hid (Two wr w.heap.size A c R A' c' T) ∧ Hid (Below w.heap.size w wr))
        case atStart => exact ⟨0, rfl, Nat.zero_le _, rfl, HK0, HQx, HTW, HBNx⟩
        case round =>
        clear HK0 HQx HTW HBNx
        obtain ⟨k, rfl, hk, rfl, HK, HQ, HTW, HB⟩ := hrel
        by_cases hkr : k < r
        · have hkI : (k : Int) < (r : Int) := by omega
          have hk0 : 0 ≤ (k : Int) := by omega
          have hsl := HTW.out.1.sl
          rw [HRL.out] at hsl
          obtain ⟨bA, oA, rfl, _, hcA⟩ := strsL_spot hsl (by omega)
          obtain ⟨y, hy⟩ : ∃ y, R[k]? = some y := ⟨_, List.getElem?_eq_getElem (by have := HRL.out; omega)⟩
          have cy := hcA k y hy
          have HYL : Hid ((bl y).size ≤ 4000000000) := Lib.hid (by rw [bl_size]; exact HRS.out.get hy)
          have HYK := Lib.hid hy
          obtain ⟨Vy, hVy⟩ : ∃ Vy, Vy = (rv y).1 := ⟨_, rfl⟩
          obtain ⟨ey, hey⟩ : ∃ ey, ey = (rv y).2 := ⟨_, rfl⟩
          have HVy := Lib.hid hVy
          have HEy := Lib.hid hey
          have HVOy : Hid Vy.Ok := Lib.hid (by rw [hVy]; exact rv_okv _)
          have HIVy : Hid ((Tryd.prog.info? 30).map (·.size) = some Vy.cells.toArray.size) := Lib.hid (by rw [Ver.cells_size HVOy.out]; exact HI6.out)
          have HZVy : Hid (Ver.zero.cells.toArray.size = Vy.cells.toArray.size) := Lib.hid (by rw [Ver.cells_size HVOy.out]; rfl)
          clear hVy hey
          clear hsl hcA hy
          go_wp2_with fail
          refine (refParse_ok (bl y) HYL.out wr).mono ?_
          rintro e wya ⟨rfl, hbya⟩
          rw [bl_data, ← HVy.out, ← HEy.out]
          obtain ⟨gy, hgy⟩ : ∃ gy, gy = wya.heap.size := ⟨_, rfl⟩
          obtain ⟨w3, hwy⟩ : ∃ w3, w3 = (wya.alloc (.cells #[.int .i64 0, .int .i64 0, .int .i64 0, .int .i64 0, .int .i64 0, .string ⟨#[]⟩] 30)).setRow gy Vy.cells.toArray := ⟨_, rfl⟩
          have qy := laid_ver wya Vy 30
          have bby : Below wya.heap.size wya w3 := by rw [hwy, hgy]; exact qy.2
          have HZy : Hid ((wya.alloc (.cells #[.int .i64 0, .int .i64 0, .int .i64 0, .int .i64 0, .int .i64 0, .string ⟨#[]⟩] 30)).heap[gy]? = some (.cells Ver.zero.cells.toArray 30 (0, 0))) := Lib.hid (by rw [hgy]; exact heap_alloc_new _ _)
          have HQy : Hid (Blk w3 gy 30 Vy.cells) := Lib.hid (by rw [hwy, hgy]; exact qy.1)
          have HBWy : Hid (Below wr.heap.size wr w3) := Lib.hid (hbya.trans (bby.mono hbya.size))
          have HBNy : Hid (Below w.heap.size w w3) := Lib.hid (HB.out.trans (HBWy.out.mono HB.out.size))
          have HGy := Lib.hid hgy
          have HWy := Lib.hid hwy
          clear hgy hwy qy bby hbya
          rw [show Vy.val = .agg Vy.cells.toArray from rfl]
          go_upto_region 11 with (refine wpList_store_row rfl 30 (.tmp 9) (.tmp 45) rfl gy Vy.cells.toArray (by rw [HGy.out]; rfl) rfl _ _ HZy.out HIVy.out HZVy.out (Ver.cells_one _) ?_)
          rw [← HGy.out, ← HWy.out]
          have Ly := Lib.hid (rload HQy.out HVOy.out)
          have Lx := Lib.hid (rload (HQ.out.below' HBWy.out) HVOx.out)
          have HQN := Lib.hid (HQ.out.below' HBWy.out)
          have HTN := Lib.hid (HTW.out.below HBWy.out)
          clear cy HQ HTW
          go_wp2_with (first | refine wpList_load_run rfl 30 (.tmp 9) rfl gy rfl _ Ly.out ?_ | refine wpList_load_run rfl 30 (.tmp 6) rfl gx rfl _ Lx.out ?_)
          refine (refCompare_ok Vy Vx HVOy.out HVOx.out w3).mono ?_
          rintro e w4 ⟨rfl, hb4⟩
          have HB4 : Hid (Below w.heap.size w w4) := Lib.hid (HBNy.out.trans (hb4.mono HBNy.out.size))
          have HQ4 := Lib.hid (HQN.out.below' hb4)
          have HT4 := Lib.hid (HTN.out.below hb4)
          obtain ⟨D, hD⟩ : ∃ D, D = Vy.cmp Vx := ⟨_, rfl⟩
          rw [← hD]
          have hvl : vle y x = true ↔ ¬ D < 0 := by rw [vle_iff, hD, HVy.out, HVx.out]; omega
          clear hb4 hD HQN HTN HB
          cases hv : vle y x with
          | true =>
            have hDn : ¬ D < 0 := hvl.1 hv
            have HKN : Hid (∀ y ∈ R.take (k + 1), vle y x = true) := Lib.hid (by
              obtain ⟨h1, h2⟩ := List.getElem?_eq_some_iff.1 HYK.out
              intro z hz
              rw [List.take_succ_eq_append_getElem h1, h2] at hz
              rcases List.mem_append.1 hz with hz | hz
              · exact HK.out z hz
              · rw [List.mem_singleton.1 hz]; exact hv)
            have hk1 : k + 1 ≤ r := by omega
            have wk : IntKind.i64.wrap ((k : Int) + 1) = ((k + 1 : Nat) : Int) := wr_eq (by omega) (by omega)
            clear hvl hv HK
            go_wp2_with fail
            go_roundg (r - (k + 1))
            case measure => omega
            case rel => exact ⟨k + 1, rfl, hk1, rfl, HKN, HQ4, HT4, HB4⟩
          | false =>
            have hDn : D < 0 := by
              rcases Int.lt_or_le D 0 with h | h
              · exact h
              · have := hvl.2 (by omega); rw [hv] at this; exact absurd this (by decide)
            have HKD : Hid (∀ y ∈ R.drop k, vle y x = false) := Lib.hid (by
              obtain ⟨h1, h2⟩ := List.getElem?_eq_some_iff.1 HYK.out
              intro z hz
              cases hzx : vle z x with
              | false => rfl
              | true =>
                rw [List.drop_eq_getElem_cons h1, h2] at hz
                have hrr : Ris vle (R.take k ++ R.drop k) := by rw [List.take_append_drop]; exact HRr.out
                have hr2 := (ris_append hrr).2.1
                rw [List.drop_eq_getElem_cons h1, h2] at hr2
                rcases List.mem_cons.1 hz with rfl | hz
                · rw [hzx] at hv; exact absurd hv (by decide)
                · have := vle_pre.tr _ _ _ ((List.pairwise_cons.1 hr2).1 z hz) hzx
                  rw [this] at hv; exact absurd hv (by decide))
            clear hvl hv
            go_wp2_with fail
            go_meet
            exact ⟨k, rfl, hk, HK, HKD, HT4, HB4⟩
        · have hkI : ¬ (k : Int) < (r : Int) := by omega
          have HKD : Hid (∀ y ∈ R.drop k, vle y x = false) := Lib.hid (by rw [List.drop_of_length_le (by have := HRL.out; omega)]; simp)
          go_wp2_with fail
          go_meet
          exact ⟨k, rfl, hk, HK, HKD, HTW, HB⟩
      case rest =>
      obtain ⟨k, rfl, hk, HK, HKD, HTW, HB⟩ := hcut
      have hkI : (k : Int) ≤ (r : Int) := by omega
      have hk0 : 0 ≤ (k : Int) := by omega
      rcases HTW.out.1.drop_sl HRL.out hk with ⟨hA, hR0, hc0⟩ | ⟨g, hA, hrc, hsl, hslc⟩
      · subst hA
        subst hc0
        have hr0 : r = 0 := by have := HRL.out; rw [hR0] at this; exact this.symm
        obtain rfl : k = 0 := by omega
        subst hr0
        obtain ⟨At, ct, w3, hap, hl3, hb3⟩ := copy_strs (X := R.drop 0) (n := 0 - 0) (by rw [List.length_drop, HRL.out]) (by omega) (by rw [hR0]; simpa [strsL] using Sl.nil_ wc (fun _ => True) 1)
        have HAP := Lib.hid hap
        obtain ⟨wd, hwd⟩ : ∃ wd, wd = w3.drew := ⟨_, rfl⟩
        have hbd : Below wc.heap.size wc wd := by rw [hwd]; exact hb3.drew
        have htd := HTW.out.below hbd
        have hld : LS wd w.heap.size At ct (R.drop 0) := by rw [hwd]; exact ⟨hl3.1, fun b hb => Nat.le_trans HB.out.size (hl3.2 b hb)⟩
        have hta : ∀ b, ob At = some b → ob none ≠ some b ∧ ob A' ≠ some b := fun b hb => by
          have h1 := hl3.ge hb
          exact ⟨fun e => by have := HTW.out.1.lt e; omega, fun e => by have := HTW.out.2.1.lt e; omega⟩
        obtain ⟨A1, c1, w4, A2, c2, w5, hap1, hap2, ht5, hb5⟩ := htd.insert (HB.out.trans (hbd.mono HB.out.size)) HRL.out hk (by omega) x hld hta
        obtain ⟨wa, hwa⟩ : ∃ wa, wa = wd.alloc (.cells #[.string (bl x)] 9) := ⟨_, rfl⟩
        rw [← hwa] at hap1
        have HCX : Hid (wd.cell? ⟨b0, o0 + i, none⟩ = some (.string (bl x))) := Lib.hid (HRX.out wd (HB.out.trans (hbd.mono HB.out.size)))
        have HAP1 := Lib.hid hap1
        have HAP2 := Lib.hid hap2
        have HWA := Lib.hid hwa
        have HT5 := Lib.hid (HNX.out 0 HK.out HKD.out w5 A2 c2 ht5)
        have HB5 := Lib.hid hb5
        clear hap hl3 hb3 hbd htd hld hta hap1 hap2 ht5 hb5 hwa
        go_upto_region 14 with (at_builtin; refine wpList_app_run _ rfl (.tmp 53) (.tmp 56) 54 54 rfl _ _ rfl rfl _ _ HAP.out ?_)
        try simp only [Act.put, List.setIfInBounds_toArray, List.set_cons_zero, List.set_cons_succ]
        obtain ⟨Inv, hInv⟩ : ∃ Inv : Done → World → Prop, Inv = Chain3 7 8 10 (fun wI => wI = wd) (fun u wI => u = .slice (some ⟨wd.heap.size, 0, none⟩) 1 1 ∧ wI = wa) (fun u yv wI => yv = .slice A1 (0 + 1) c1 ∧ wI = w4) (fun u yv zv wI => zv = .slice A2 (0 + 1) c2 ∧ wI = w5) := ⟨_, rfl⟩
        have HI := Lib.hid hInv
        have hcz : Hid (∀ τ wI, Inv τ wI → τ 7 = none → wI.cell? ⟨b0, o0 + i, none⟩ = some (.string (bl x))) := by
          intro τ wI h h9
          rw [hInv] at h
          obtain rfl := h.upto0 h9
          exact HCX.out
        have H00 : Hid (Inv Done.none w3.drew) := by rw [hInv]; exact Chain3.start hwd.symm
        clear hInv hwd
        refine wp_region_inv (by kernel_rfl) [⟨0, false, [], [8, 10]⟩, ⟨1, false, [], [8, 10]⟩, ⟨2, false, [], [8, 10]⟩, ⟨3, false, [], [7, 8, 10]⟩, ⟨4, false, [], [7, 8, 10]⟩, ⟨5, false, [], [7, 8, 10]⟩, ⟨6, false, [], [7, 8, 10]⟩, ⟨9, false, [], [10]⟩, ⟨7, true, [], [8, 10]⟩, ⟨8, true, [7], [10]⟩, ⟨10, true, [7, 8], []⟩, ⟨11, false, [7, 8, 10], []⟩] (by kernel_rfl) Inv (fun _ _ => True) (fun _ => ⟨undef, trivial⟩) H00.out ?_
        iterate 3 (apply WpI.pure; (simp only [List.getElem?_toArray, List.getElem?_cons_succ, List.getElem?_cons_zero]; rfl); (intro τ wI hA hI; go_simp; exact ⟨hI, Is.rfl'⟩); simp only [Act.put, List.setIfInBounds_toArray, List.set_cons_zero, List.set_cons_succ])
        iterate 4 (apply WpI.pure; (simp only [List.getElem?_toArray, List.getElem?_cons_succ, List.getElem?_cons_zero]; rfl); (intro τ wI hA hI; have f0 := hcz.out τ wI hI (hA.2 7 (by decide)); go_simp; exact ⟨hI, Is.rfl'⟩); simp only [Act.put, List.setIfInBounds_toArray, List.set_cons_zero, List.set_cons_succ])
        (apply WpI.pure; (simp only [List.getElem?_toArray, List.getElem?_cons_succ, List.getElem?_cons_zero]; rfl); (intro τ wI hA hI; go_simp; exact ⟨hI, Is.rfl'⟩); simp only [Act.put, List.setIfInBounds_toArray, List.set_cons_zero, List.set_cons_succ])
        apply WpI.effect; (simp only [List.getElem?_toArray, List.getElem?_cons_succ, List.getElem?_cons_zero]; rfl)
        · intro τ wI hA hn hI
          have h0 := hI
          rw [HI.out] at h0
          have h8 : τ 8 = none := hA.2 8 (by decide)
          have h10 : τ 10 = none := hA.2 10 (by decide)
          have hK := h0.at0 hn h8 h10
          have HT := Lib.hid (And.intro True.intro (And.intro h8 ( And.intro h10 (True.intro))))
          clear hA hn hI h0 h8 h10
          subst hK
          go_simp
          rw [HI.out]
          exact Chain3.put1 HT.out.2.1 (by decide) HT.out.2.2.1 (by decide) ⟨rfl, HWA.out.symm⟩
        intro v7 hv7
        simp only [Act.put, List.setIfInBounds_toArray, List.set_cons_zero, List.set_cons_succ]
        clear hv7
        apply WpI.effect; (simp only [List.getElem?_toArray, List.getElem?_cons_succ, List.getElem?_cons_zero]; rfl)
        · intro τ wI hA hn hI
          have h0 := hI
          rw [HI.out] at h0
          have h7 : τ 7 = some v7 := hA.1 7 (by decide)
          have h10 : τ 10 = none := hA.2 10 (by decide)
          have hK := h0.at1 h7 hn h10
          have HT := Lib.hid (And.intro True.intro (And.intro h7 ( And.intro h10 (True.intro))))
          clear hA hn hI h0 h7 h10
          obtain ⟨e7, e8⟩ := hK
          subst e7
          subst e8
          refine runs_app_run rfl (.tmp 60) (.tmp 65) 54 54 rfl _ _ rfl rfl _ _ HAP1.out ?_
          rw [HI.out]
          exact ⟨trivial, Chain3.put2 HT.out.2.1 (by decide) HT.out.2.2.1 (by decide) ⟨rfl, rfl⟩⟩
        intro v8 hv8
        simp only [Act.put, List.setIfInBounds_toArray, List.set_cons_zero, List.set_cons_succ]
        clear hv8
        apply WpI.effect; (simp only [List.getElem?_toArray, List.getElem?_cons_succ, List.getElem?_cons_zero]; rfl)
        · intro τ wI hA hn hI
          have h0 := hI
          rw [HI.out] at h0
          have h7 : τ 7 = some v7 := hA.1 7 (by decide)
          have h8 : τ 8 = some v8 := hA.1 8 (by decide)
          have hK := h0.at2 h7 h8 hn
          have HT := Lib.hid (And.intro True.intro (And.intro h7 ( And.intro h8 (True.intro))))
          clear hA hn hI h0 h7 h8
          obtain ⟨e7, e8⟩ := hK
          subst e7
          subst e8
          refine runs_app_run rfl (.tmp 66) (.tmp 67) 54 54 rfl _ _ rfl rfl _ _ HAP2.out ?_
          rw [HI.out]
          exact ⟨trivial, Chain3.put3 HT.out.2.1 (by decide) HT.out.2.2.1 (by decide) ⟨rfl, rfl⟩⟩
        intro v10 hv10
        simp only [Act.put, List.setIfInBounds_toArray, List.set_cons_zero, List.set_cons_succ]
        clear hv10
        (apply WpI.pure; (simp only [List.getElem?_toArray, List.getElem?_cons_succ, List.getElem?_cons_zero]; rfl); (intro τ wI hA hI; go_simp; exact ⟨hI, Is.rfl'⟩); simp only [Act.put, List.setIfInBounds_toArray, List.set_cons_zero, List.set_cons_succ])
        refine WpI.done ?_
        intro w9 hI
        rw [HI.out] at hI
        have hE := hI.end_ (by decide) (by decide) (by decide)
        obtain ⟨e7, e8⟩ := hE
        subst e7
        subst e8
        clear hI H00 hcz HI HCX HAP1 HAP2 HWA HAP
        go_wp2_with fail
        go_roundg (n - (i + 1))
        case measure => omega
        case rel => exact ⟨i + 1, A2, c2, 0 + 1, A', c', s, by go_num, rfl, rfl, by omega, rfl, g2, HT5, HB5⟩
      · subst hA
        by_cases hck : c = k
        · subst hck
          obtain ⟨At, hAt⟩ : ∃ At, At = some (⟨wc.heap.size, 0, none⟩ : Addr) := ⟨_, rfl⟩
          obtain ⟨w3, hw3⟩ : ∃ w3, w3 = wc.alloc (.cells #[] 9) := ⟨_, rfl⟩
          have hb3 : Below wc.heap.size wc w3 := by rw [hw3]; exact (Below.refl _ _).alloc (Nat.le_refl _) _
          have hrc2 : r - c = 0 := by omega
          have hl3 : LS w3 wc.heap.size At 0 (R.drop c) := by
            rw [List.drop_of_length_le (by rw [HRL.out]; omega), hw3, hAt]
            exact ⟨own_of_blk (Blk.new wc 9 #[]) 1 0 rfl (Nat.zero_le _), fun b hb => by have hb' : wc.heap.size = b := Option.some.inj hb; omega⟩
          have HAT := Lib.hid hAt
          have HW3 := Lib.hid hw3
          clear hAt
          obtain ⟨wd, hwd⟩ : ∃ wd, wd = w3.drew := ⟨_, rfl⟩
          have hbd : Below wc.heap.size wc wd := by rw [hwd]; exact hb3.drew
          have htd := HTW.out.below hbd
          have hld : LS wd w.heap.size At 0 (R.drop c) := by rw [hwd]; exact ⟨hl3.1, fun b hb => Nat.le_trans HB.out.size (hl3.2 b hb)⟩
          have hta : ∀ b, ob At = some b → ob (some ⟨g, 0, none⟩) ≠ some b ∧ ob A' ≠ some b := fun b hb => by
            have h1 := hl3.ge hb
            exact ⟨fun e => by have := HTW.out.1.lt e; omega, fun e => by have := HTW.out.2.1.lt e; omega⟩
          obtain ⟨A1, c1, w4, A2, c2, w5, hap1, hap2, ht5, hb5⟩ := htd.insert (HB.out.trans (hbd.mono HB.out.size)) HRL.out hk (by omega) x hld hta
          obtain ⟨wa, hwa⟩ : ∃ wa, wa = wd.alloc (.cells #[.string (bl x)] 9) := ⟨_, rfl⟩
          rw [← hwa] at hap1
          have HCX : Hid (wd.cell? ⟨b0, o0 + i, none⟩ = some (.string (bl x))) := Lib.hid (HRX.out wd (HB.out.trans (hbd.mono HB.out.size)))
          have HAP1 := Lib.hid hap1
          rw [hrc2] at hap2
          have HAP2 := Lib.hid hap2
          have HWA := Lib.hid hwa
          have HT5 := Lib.hid (HNX.out c HK.out HKD.out w5 A2 c2 ht5)
          have HB5 := Lib.hid hb5
          clear hw3 hl3 hb3 hbd htd hld hta hap1 hap2 ht5 hb5 hwa
          go_upto_region 14 with fail
          rw [← HW3.out, ← HAT.out]
          try simp only [Act.put, List.setIfInBounds_toArray, List.set_cons_zero, List.set_cons_succ]
          obtain ⟨Inv, hInv⟩ : ∃ Inv : Done → World → Prop, Inv = Chain3 7 8 10 (fun wI => wI = wd) (fun u wI => u = .slice (some ⟨wd.heap.size, 0, none⟩) 1 1 ∧ wI = wa) (fun u yv wI => yv = .slice A1 (c + 1) c1 ∧ wI = w4) (fun u yv zv wI => zv = .slice A2 (r + 1) c2 ∧ wI = w5) := ⟨_, rfl⟩
          have HI := Lib.hid hInv
          have hcz : Hid (∀ τ wI, Inv τ wI → τ 7 = none → wI.cell? ⟨b0, o0 + i, none⟩ = some (.string (bl x))) := by
            intro τ wI h h9
            rw [hInv] at h
            obtain rfl := h.upto0 h9
            exact HCX.out
          have H00 : Hid (Inv Done.none w3.drew) := by rw [hInv]; exact Chain3.start hwd.symm
          clear hInv hwd
          refine wp_region_inv (by kernel_rfl) [⟨0, false, [], [8, 10]⟩, ⟨1, false, [], [8, 10]⟩, ⟨2, false, [], [8, 10]⟩, ⟨3, false, [], [7, 8, 10]⟩, ⟨4, false, [], [7, 8, 10]⟩, ⟨5, false, [], [7, 8, 10]⟩, ⟨6, false, [], [7, 8, 10]⟩, ⟨9, false, [], [10]⟩, ⟨7, true, [], [8, 10]⟩, ⟨8, true, [7], [10]⟩, ⟨10, true, [7, 8], []⟩, ⟨11, false, [7, 8, 10], []⟩] (by kernel_rfl) Inv (fun _ _ => True) (fun _ => ⟨undef, trivial⟩) H00.out ?_
          iterate 3 (apply WpI.pure; (simp only [List.getElem?_toArray, List.getElem?_cons_succ, List.getElem?_cons_zero]; rfl); (intro τ wI hA hI; go_simp; exact ⟨hI, Is.rfl'⟩); simp only [Act.put, List.setIfInBounds_toArray, List.set_cons_zero, List.set_cons_succ])
          iterate 4 (apply WpI.pure; (simp only [List.getElem?_toArray, List.getElem?_cons_succ, List.getElem?_cons_zero]; rfl); (intro τ wI hA hI; have f0 := hcz.out τ wI hI (hA.2 7 (by decide)); go_simp; exact ⟨hI, Is.rfl'⟩); simp only [Act.put, List.setIfInBounds_toArray, List.set_cons_zero, List.set_cons_succ])
          (apply WpI.pure; (simp only [List.getElem?_toArray, List.getElem?_cons_succ, List.getElem?_cons_zero]; rfl); (intro τ wI hA hI; go_simp; exact ⟨hI, Is.rfl'⟩); simp only [Act.put, List.setIfInBounds_toArray, List.set_cons_zero, List.set_cons_succ])
          apply WpI.effect; (simp only [List.getElem?_toArray, List.getElem?_cons_succ, List.getElem?_cons_zero]; rfl)
          · intro τ wI hA hn hI
            have h0 := hI
            rw [HI.out] at h0
            have h8 : τ 8 = none := hA.2 8 (by decide)
            have h10 : τ 10 = none := hA.2 10 (by decide)
            have hK := h0.at0 hn h8 h10
            have HT := Lib.hid (And.intro True.intro (And.intro h8 ( And.intro h10 (True.intro))))
            clear hA hn hI h0 h8 h10
            subst hK
            go_simp
            rw [HI.out]
            exact Chain3.put1 HT.out.2.1 (by decide) HT.out.2.2.1 (by decide) ⟨rfl, HWA.out.symm⟩
          intro v7 hv7
          simp only [Act.put, List.setIfInBounds_toArray, List.set_cons_zero, List.set_cons_succ]
          clear hv7
          apply WpI.effect; (simp only [List.getElem?_toArray, List.getElem?_cons_succ, List.getElem?_cons_zero]; rfl)
          · intro τ wI hA hn hI
            have h0 := hI
            rw [HI.out] at h0
            have h7 : τ 7 = some v7 := hA.1 7 (by decide)
            have h10 : τ 10 = none := hA.2 10 (by decide)
            have hK := h0.at1 h7 hn h10
            have HT := Lib.hid (And.intro True.intro (And.intro h7 ( And.intro h10 (True.intro))))
            clear hA hn hI h0 h7 h10
            obtain ⟨e7, e8⟩ := hK
            subst e7
            subst e8
            refine runs_app_run rfl (.tmp 60) (.tmp 65) 54 54 rfl _ _ rfl rfl _ _ HAP1.out ?_
            rw [HI.out]
            exact ⟨trivial, Chain3.put2 HT.out.2.1 (by decide) HT.out.2.2.1 (by decide) ⟨rfl, rfl⟩⟩
          intro v8 hv8
          simp only [Act.put, List.setIfInBounds_toArray, List.set_cons_zero, List.set_cons_succ]
          clear hv8
          apply WpI.effect; (simp only [List.getElem?_toArray, List.getElem?_cons_succ, List.getElem?_cons_zero]; rfl)
          · intro τ wI hA hn hI
            have h0 := hI
            rw [HI.out] at h0
            have h7 : τ 7 = some v7 := hA.1 7 (by decide)
            have h8 : τ 8 = some v8 := hA.1 8 (by decide)
            have hK := h0.at2 h7 h8 hn
            have HT := Lib.hid (And.intro True.intro (And.intro h7 ( And.intro h8 (True.intro))))
            clear hA hn hI h0 h7 h8
            obtain ⟨e7, e8⟩ := hK
            subst e7
            subst e8
            refine runs_app_run rfl (.tmp 66) (.tmp 67) 54 54 rfl _ _ rfl rfl _ _ HAP2.out ?_
            rw [HI.out]
            exact ⟨trivial, Chain3.put3 HT.out.2.1 (by decide) HT.out.2.2.1 (by decide) ⟨rfl, rfl⟩⟩
          intro v10 hv10
          simp only [Act.put, List.setIfInBounds_toArray, List.set_cons_zero, List.set_cons_succ]
          clear hv10
          (apply WpI.pure; (simp only [List.getElem?_toArray, List.getElem?_cons_succ, List.getElem?_cons_zero]; rfl); (intro τ wI hA hI; go_simp; exact ⟨hI, Is.rfl'⟩); simp only [Act.put, List.setIfInBounds_toArray, List.set_cons_zero, List.set_cons_succ])
          refine WpI.done ?_
          intro w9 hI
          rw [HI.out] at hI
          have hE := hI.end_ (by decide) (by decide) (by decide)
          obtain ⟨e7, e8⟩ := hE
          subst e7
          subst e8
          clear hI H00 hcz HI HCX HAP1 HAP2 HWA
          go_wp2_with fail
          go_roundg (n - (i + 1))
          case measure => omega
          case rel => exact ⟨i + 1, A2, c2, r + 1, A', c', s, by go_num, rfl, rfl, by omega, rfl, g2, HT5, HB5⟩
        · have hckI : ¬ (c : Int) = (k : Int) := by omega
          have hkc : k ≤ c := by omega
          obtain ⟨At, ct, w3, hap, hl3, hb3⟩ := copy_strs (X := R.drop k) (n := r - k) (by rw [List.length_drop, HRL.out]) (by omega) (hsl)
          have HAP := Lib.hid hap
          obtain ⟨wd, hwd⟩ : ∃ wd, wd = w3.drew := ⟨_, rfl⟩
          have hbd : Below wc.heap.size wc wd := by rw [hwd]; exact hb3.drew
          have htd := HTW.out.below hbd
          have hld : LS wd w.heap.size At ct (R.drop k) := by rw [hwd]; exact ⟨hl3.1, fun b hb => Nat.le_trans HB.out.size (hl3.2 b hb)⟩
          have hta : ∀ b, ob At = some b → ob (some ⟨g, 0, none⟩) ≠ some b ∧ ob A' ≠ some b := fun b hb => by
            have h1 := hl3.ge hb
            exact ⟨fun e => by have := HTW.out.1.lt e; omega, fun e => by have := HTW.out.2.1.lt e; omega⟩
          obtain ⟨A1, c1, w4, A2, c2, w5, hap1, hap2, ht5, hb5⟩ := htd.insert (HB.out.trans (hbd.mono HB.out.size)) HRL.out hk (by omega) x hld hta
          obtain ⟨wa, hwa⟩ : ∃ wa, wa = wd.alloc (.cells #[.string (bl x)] 9) := ⟨_, rfl⟩
          rw [← hwa] at hap1
          have HCX : Hid (wd.cell? ⟨b0, o0 + i, none⟩ = some (.string (bl x))) := Lib.hid (HRX.out wd (HB.out.trans (hbd.mono HB.out.size)))
          have HAP1 := Lib.hid hap1
          have HAP2 := Lib.hid hap2
          have HWA := Lib.hid hwa
          have HT5 := Lib.hid (HNX.out k HK.out HKD.out w5 A2 c2 ht5)
          have HB5 := Lib.hid hb5
          clear hap hl3 hb3 hbd htd hld hta hap1 hap2 ht5 hb5 hwa
          go_upto_region 14 with (at_builtin; refine wpList_app_run _ rfl (.tmp 53) (.tmp 56) 54 54 rfl _ _ rfl rfl _ _ HAP.out ?_)
          try simp only [Act.put, List.setIfInBounds_toArray, List.set_cons_zero, List.set_cons_succ]
          obtain ⟨Inv, hInv⟩ : ∃ Inv : Done → World → Prop, Inv = Chain3 7 8 10 (fun wI => wI = wd) (fun u wI => u = .slice (some ⟨wd.heap.size, 0, none⟩) 1 1 ∧ wI = wa) (fun u yv wI => yv = .slice A1 (k + 1) c1 ∧ wI = w4) (fun u yv zv wI => zv = .slice A2 (r + 1) c2 ∧ wI = w5) := ⟨_, rfl⟩
          have HI := Lib.hid hInv
          have hcz : Hid (∀ τ wI, Inv τ wI → τ 7 = none → wI.cell? ⟨b0, o0 + i, none⟩ = some (.string (bl x))) := by
            intro τ wI h h9
            rw [hInv] at h
            obtain rfl := h.upto0 h9
            exact HCX.out
          have H00 : Hid (Inv Done.none w3.drew) := by rw [hInv]; exact Chain3.start hwd.symm
          clear hInv hwd
          refine wp_region_inv (by kernel_rfl) [⟨0, false, [], [8, 10]⟩, ⟨1, false, [], [8, 10]⟩, ⟨2, false, [], [8, 10]⟩, ⟨3, false, [], [7, 8, 10]⟩, ⟨4, false, [], [7, 8, 10]⟩, ⟨5, false, [], [7, 8, 10]⟩, ⟨6, false, [], [7, 8, 10]⟩, ⟨9, false, [], [10]⟩, ⟨7, true, [], [8, 10]⟩, ⟨8, true, [7], [10]⟩, ⟨10, true, [7, 8], []⟩, ⟨11, false, [7, 8, 10], []⟩] (by kernel_rfl) Inv (fun _ _ => True) (fun _ => ⟨undef, trivial⟩) H00.out ?_
          iterate 3 (apply WpI.pure; (simp only [List.getElem?_toArray, List.getElem?_cons_succ, List.getElem?_cons_zero]; rfl); (intro τ wI hA hI; go_simp; exact ⟨hI, Is.rfl'⟩); simp only [Act.put, List.setIfInBounds_toArray, List.set_cons_zero, List.set_cons_succ])
          iterate 4 (apply WpI.pure; (simp only [List.getElem?_toArray, List.getElem?_cons_succ, List.getElem?_cons_zero]; rfl); (intro τ wI hA hI; have f0 := hcz.out τ wI hI (hA.2 7 (by decide)); go_simp; exact ⟨hI, Is.rfl'⟩); simp only [Act.put, List.setIfInBounds_toArray, List.set_cons_zero, List.set_cons_succ])
          (apply WpI.pure; (simp only [List.getElem?_toArray, List.getElem?_cons_succ, List.getElem?_cons_zero]; rfl); (intro τ wI hA hI; go_simp; exact ⟨hI, Is.rfl'⟩); simp only [Act.put, List.setIfInBounds_toArray, List.set_cons_zero, List.set_cons_succ])
          apply WpI.effect; (simp only [List.getElem?_toArray, List.getElem?_cons_succ, List.getElem?_cons_zero]; rfl)
          · intro τ wI hA hn hI
            have h0 := hI
            rw [HI.out] at h0
            have h8 : τ 8 = none := hA.2 8 (by decide)
            have h10 : τ 10 = none := hA.2 10 (by decide)
            have hK := h0.at0 hn h8 h10
            have HT := Lib.hid (And.intro True.intro (And.intro h8 ( And.intro h10 (True.intro))))
            clear hA hn hI h0 h8 h10
            subst hK
            go_simp
            rw [HI.out]
            exact Chain3.put1 HT.out.2.1 (by decide) HT.out.2.2.1 (by decide) ⟨rfl, HWA.out.symm⟩
          intro v7 hv7
          simp only [Act.put, List.setIfInBounds_toArray, List.set_cons_zero, List.set_cons_succ]
          clear hv7
          apply WpI.effect; (simp only [List.getElem?_toArray, List.getElem?_cons_succ, List.getElem?_cons_zero]; rfl)
          · intro τ wI hA hn hI
            have h0 := hI
            rw [HI.out] at h0
            have h7 : τ 7 = some v7 := hA.1 7 (by decide)
            have h10 : τ 10 = none := hA.2 10 (by decide)
            have hK := h0.at1 h7 hn h10
            have HT := Lib.hid (And.intro True.intro (And.intro h7 ( And.intro h10 (True.intro))))
            clear hA hn hI h0 h7 h10
            obtain ⟨e7, e8⟩ := hK
            subst e7
            subst e8
            refine runs_app_run rfl (.tmp 60) (.tmp 65) 54 54 rfl _ _ rfl rfl _ _ HAP1.out ?_
            rw [HI.out]
            exact ⟨trivial, Chain3.put2 HT.out.2.1 (by decide) HT.out.2.2.1 (by decide) ⟨rfl, rfl⟩⟩
          intro v8 hv8
          simp only [Act.put, List.setIfInBounds_toArray, List.set_cons_zero, List.set_cons_succ]
          clear hv8
          apply WpI.effect; (simp only [List.getElem?_toArray, List.getElem?_cons_succ, List.getElem?_cons_zero]; rfl)
          · intro τ wI hA hn hI
            have h0 := hI
            rw [HI.out] at h0
            have h7 : τ 7 = some v7 := hA.1 7 (by decide)
            have h8 : τ 8 = some v8 := hA.1 8 (by decide)
            have hK := h0.at2 h7 h8 hn
            have HT := Lib.hid (And.intro True.intro (And.intro h7 ( And.intro h8 (True.intro))))
            clear hA hn hI h0 h7 h8
            obtain ⟨e7, e8⟩ := hK
            subst e7
            subst e8
            refine runs_app_run rfl (.tmp 66) (.tmp 67) 54 54 rfl _ _ rfl rfl _ _ HAP2.out ?_
            rw [HI.out]
            exact ⟨trivial, Chain3.put3 HT.out.2.1 (by decide) HT.out.2.2.1 (by decide) ⟨rfl, rfl⟩⟩
          intro v10 hv10
          simp only [Act.put, List.setIfInBounds_toArray, List.set_cons_zero, List.set_cons_succ]
          clear hv10
          (apply WpI.pure; (simp only [List.getElem?_toArray, List.getElem?_cons_succ, List.getElem?_cons_zero]; rfl); (intro τ wI hA hI; go_simp; exact ⟨hI, Is.rfl'⟩); simp only [Act.put, List.setIfInBounds_toArray, List.set_cons_zero, List.set_cons_succ])
          refine WpI.done ?_
          intro w9 hI
          rw [HI.out] at hI
          have hE := hI.end_ (by decide) (by decide) (by decide)
          obtain ⟨e7, e8⟩ := hE
          subst e7
          subst e8
          clear hI H00 hcz HI HCX HAP1 HAP2 HWA HAP
          go_wp2_with fail
          go_roundg (n - (i + 1))
          case measure => omega
          case rel => exact ⟨i + 1, A2, c2, r + 1, A', c', s, by go_num, rfl, rfl, by omega, rfl, g2, HT5, HB5⟩
  have hni : ¬ (i : Int) < (n : Int) := by omega
  have hin : i = n := by omega
  have hrs : r + s = n := by
    have := vsort_length (X.take i)
    unfold vsort at this
    rw [List.length_append, srt_length, HLn.out.1, HLn.out.2, List.length_take] at this
    have := HN.out
    omega
  obtain ⟨A9, c9, w9, hap, h9, _, _, hb9⟩ := H2.out.join HB.out (r := r) (s := s) (by rw [srt_length]; exact HLn.out.1) HLn.out.2 (by omega)
  rw [hrs] at hap
  have H9 : Hid (LS w9 w.heap.size A9 c9 (vsort X)) := Lib.hid (by
    have htk : X.take i = X := List.take_of_length_le (by have := HN.out; omega)
    rw [htk] at h9
    exact h9)
  have HAP := Lib.hid hap
  have HB9 := Lib.hid hb9
  clear hap h9 hb9 hrs hin H2 HLn HB
  go_wp2_with (at_builtin; refine wpList_app_run _ rfl (.tmp 69) (.tmp 70) 54 54 rfl _ _ rfl rfl _ _ HAP.out ?_)
  go_ret
  exact ⟨A9, c9, rfl, H9.out, HB9.out⟩
end Go.Proofs.YteeijjhgdplifaaDoor
