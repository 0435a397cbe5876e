/- Spans: sorting and compacting a row of cuts of the call's own, none among them. -/
import Derived.Test.YteeijjhgdplifaaGreatDoorSK
import Derived.Test.YteeijjhgdplifaaGreatDoorTA
import Derived.Test.YteeijjhgdplifaaGreatDoorS8
import Derived.LoopN
namespace Go.Proofs.YteeijjhgdplifaaGreatDoor
open Go.RowKit

set_option maxRecDepth 100000 in
theorem ins0_ok (F : Value) (w : World) : Calls Tryz.prog 96 #[.slice none 0 0, .int .i64 0, .int .i64 0, F] w fun e w' => e = .returned (.tuple #[]) ∧ w = w' := by
  go_enter Tryz.func96, Tryz.ntmps96
  go_wp2_with fail
  refine wp_loop_rounds 1 ?_
  rw [rounds_succ]
  go_wp2_with fail
  go_end0
  exact ⟨rfl, rfl⟩
set_option maxRecDepth 100000 in
theorem pdq0_ok (l : Int) (F : Value) (w : World) : Calls Tryz.prog 72 #[.slice none 0 0, .int .i64 0, .int .i64 0, .int .i64 l, F] w fun e w' => e = .returned (.tuple #[]) ∧ w = w' := by
  go_enter Tryz.func72, Tryz.ntmps72
  go_wp2_with fail
  refine wp_loop_rounds 1 ?_
  rw [rounds_succ]
  go_wp2_with fail
  refine (ins0_ok F w).mono ?_
  rintro e w' ⟨rfl, rfl⟩
  go_wp2_with fail
  refine bodyPost_ret (results_none rfl _ _ _) rfl ?_
  exact ⟨rfl, rfl⟩
set_option maxRecDepth 100000 in
theorem sort0_ok (F : Value) (w : World) : Calls Tryz.prog 46 #[.slice none 0 0, F] w fun e w' => e = .returned (.tuple #[]) ∧ w = w' := by
  go_enter Tryz.func46, Tryz.ntmps46
  go_wp2_with fail
  refine (Tryz.bits_Len 0 _ (by decide) (by decide)).mono ?_
  rintro e w' ⟨rfl, rfl⟩
  go_wp2_with fail
  refine (pdq0_ok _ F _).mono ?_
  rintro e w' ⟨rfl, rfl⟩
  go_wp2_with fail
  go_end0
  exact ⟨rfl, rfl⟩
/-- a row's two forms -/
theorem CRow.form {w : World} {B c n : Nat} {A : Option Addr} {cs : List Cut} (h : CRow w B A c n cs) : (A = none ∧ n = 0 ∧ c = 0 ∧ cs = []) ∨ ∃ g sl, A = some ⟨g, 0, none⟩ ∧ B ≤ g ∧ g < w.heap.size ∧ n ≤ c ∧ Blk w g 57 (cutsL cs ++ sl) ∧ sl.length + n * 7 = c * 7 := by
  obtain ⟨hl, hok, ho, hB⟩ := h
  obtain ⟨hcl, h2⟩ := ho
  rcases h2 with ⟨hv, h0⟩ | ⟨g', cap, cur, hv, hb, hh, h3, h4, h5, h6⟩
  · simp only [Value.slice.injEq] at hv
    exact .inl ⟨hv.1, h0, hv.2.2, List.length_eq_zero_iff.1 (by omega)⟩
  · simp only [Value.slice.injEq] at hv
    obtain ⟨rfl, _, rfl⟩ := hv
    refine .inr ⟨g', cur.toList.drop (n * 7), rfl, hB g' rfl, ?_, h3, ?_, ?_⟩
    · exact (Array.getElem?_eq_some_iff.1 hh).1
    · rw [← h6, List.take_append_drop]
      unfold Blk
      simpa using hh
    · rw [List.length_drop, Array.length_toList, h5]
      have := Nat.mul_le_mul_right 7 h3
      omega
/-- a row sorted in place -/
theorem CRow.sorted {w w' : World} {B c n g : Nat} {cs cs' : List Cut} {sl : List Value} (h : CRow w B (some ⟨g, 0, none⟩) c n cs) (hk : Blk w g 57 (cutsL cs ++ sl)) (hp : cs'.Perm cs) (hk' : Blk w' g 57 (cutsL cs' ++ sl)) : CRow w' B (some ⟨g, 0, none⟩) c n cs' := by
  obtain ⟨hl, hok, ho, hB⟩ := h
  have hok' : Oks cs' := fun x hx => hok x (hp.mem_iff.1 hx)
  obtain ⟨hcl, h2⟩ := ho
  rcases h2 with ⟨hv, h0⟩ | ⟨g', cap, cur, hv, hb, hh, h3, h4, h5, h6⟩
  · simp at hv
  · simp only [Value.slice.injEq, Option.some.injEq, Addr.mk.injEq, and_true, true_and] at hv
    obtain ⟨rfl, rfl⟩ := hv
    unfold Blk at hk
    rw [hh] at hk
    simp only [Option.some.injEq, Obj.cells.injEq, and_true] at hk
    have hll : (cutsL cs').length = (cutsL cs).length := by rw [cutsL_len hok', cutsL_len hok, hp.length_eq]
    refine ⟨by rw [hp.length_eq, hl], hok', ⟨by rw [hll]; exact hcl, .inr ⟨g, c, (cutsL cs' ++ sl).toArray, rfl, hb, hk', h3, h4, ?_, ?_⟩⟩, hB⟩
    · rw [← h5, hk]
      simp only [List.size_toArray, List.length_append, hll]
    · rw [← hcl, ← hll]
      simp
set_option maxRecDepth 100000 in
theorem sortC_ok (cs : List Cut) (A : Option Addr) (c n : Nat) (hX : n ≤ 1000000) (w0 w : World) (hb : Below w0.heap.size w0 w) (hr : CRow w w0.heap.size A c n cs) :
    Calls Tryz.prog 46 #[.slice A n c, .func (.func 33) #[] #[]] w fun e w' => e = .returned (.tuple #[]) ∧ ∃ cs', cs'.Perm cs ∧ CutRis cs' ∧ CRow w' w0.heap.size A c n cs' ∧ Below w0.heap.size w0 w' := by
  rcases hr.form with ⟨rfl, rfl, rfl, rfl⟩ | ⟨g, sl, rfl, hg, hlt, hnc, hk, hsl⟩
  · refine (sort0_ok _ w).mono ?_
    rintro e w' ⟨rfl, rfl⟩
    exact ⟨rfl, [], List.Perm.refl _, List.Pairwise.nil, hr, hb⟩
  · have h1 := cutSort_ok cs hr.2.1 sl g c w hk (by have := hr.1; omega)
    rw [hr.1] at h1
    refine h1.mono ?_
    rintro e w' ⟨rfl, cs', hp, hris, hk', hm⟩
    refine ⟨rfl, cs', hp, hris, hr.sorted hk hp hk', hb.trans ⟨hm.os, hm.tape, hm.output, hm.size, fun b hb' => hm.block b ?_ ?_⟩⟩
    · have := hb.size; omega
    · intro e; omega
set_option maxRecDepth 100000 in
theorem compactC_ok (cs : List Cut) (A : Option Addr) (c n : Nat) (hX : n ≤ 1000000) (w0 w : World) (hb : Below w0.heap.size w0 w) (hr : CRow w w0.heap.size A c n cs) :
    Calls Tryz.prog 47 #[.slice A n c] w fun e w' => ∃ m, e = .returned (.slice A m c) ∧ CRow w' w0.heap.size A c m (cmpc cs) ∧ Below w0.heap.size w0 w' := by
  rcases hr.form with ⟨rfl, rfl, rfl, rfl⟩ | ⟨g, sl, rfl, hg, hlt, hnc, hk, hsl⟩
  · have HR := Lib.hid hr
    have HB := Lib.hid hb
    clear hr hb
    go_enter Tryz.func47, Tryz.ntmps47
    go_wp2_with fail
    go_ret
    exact ⟨0, rfl, HR.out, HB.out⟩
  · exact compact_ok cs g c n hX w0 w hb hr
end Go.Proofs.YteeijjhgdplifaaGreatDoor
