/- Rows of texts of the call's own; how long a version's text is. -/
import Derived.Test.YteeijjhgdplifaaGreatDoorTH
namespace Go.Proofs.YteeijjhgdplifaaGreatDoor
open Go.RowKit

/-- a row of texts of the call's own -/
def SRow (w : World) (B : Nat) (A : Option Addr) (c n : Nat) (xs : List (List UInt8)) : Prop := xs.length = n ∧ w.ownsRow 0 9 1 (.slice A n c) n (strsL xs) ∧ ∀ b, (Value.slice A n c).ownBlock = some b → B ≤ b
theorem SRow.nil_ (w : World) (B : Nat) : SRow w B none 0 0 [] := ⟨rfl, own_nil0 _ _ _, fun b hb => by simp [Value.ownBlock] at hb⟩
theorem SRow.below {w w' : World} {B : Nat} {A : Option Addr} {c n : Nat} {xs : List (List UInt8)} (h : SRow w B A c n xs) (hb : Below w.heap.size w w') : SRow w' B A c n xs := ⟨h.1, own_below h.2.1 hb, h.2.2⟩
theorem SRow.push {w wb : World} {A : Option Addr} {c n : Nat} {xs : List (List UInt8)} (h : SRow w wb.heap.size A c n xs) (hb : Below wb.heap.size wb w) (s : ByteArray) (x : List UInt8) (hs : s = bl x) (hX : n + 1 ≤ 8000000000) :
    ∃ A1 c1 w1, (Builtin.append_ #[48, 48] 48 #[.slice A n c, .slice (some ⟨w.heap.size, 0, none⟩) 1 1]).run Tryz.prog (w.alloc (.cells #[.string s] 9)) = .ok (.slice A1 (n + 1) c1) w1 ∧ SRow w1 wb.heap.size A1 c1 (n + 1) (xs ++ [x]) ∧ Below wb.heap.size wb w1 := by
  have hb1 : Below w.heap.size w (w.alloc (.cells #[.string s] 9)) := (Below.refl _ _).alloc (Nat.le_refl _) _
  obtain ⟨A7, c7, w7, hap, o7, gr7, a7, _⟩ := run_app (P := Tryz.prog) (w.alloc (.cells #[.string s] 9)) 48 48 9 (.string ⟨#[]⟩) 1 16 Tryz.underlying48 infoStr rfl (by decide) (by decide) (.slice A n c) n _ (own_below h.2.1 hb1) _ (.slice (some ⟨w.heap.size, 0, none⟩) 1 1) 1 [.string s] (Sl.one w 9 _) (by simp [Value.oneCell']) (by omega)
  have hb2 := hb.trans (hb1.mono hb.size)
  refine ⟨A7, c7, w7, hap, ⟨by rw [List.length_append, h.1]; rfl, ?_, fun b hb' => ?_⟩, hb2.trans ⟨gr7.os, gr7.tape, gr7.output, gr7.size, fun b hb' => gr7.block b (by have := hb2.size; omega) (fun e => by have := h.2.2 b e.symm; omega)⟩⟩
  · rw [hs] at o7
    simpa [strsL] using o7
  · rcases a7 with h1 | h1
    · rw [h1] at hb'; exact h.2.2 b hb'
    · rw [h1] at hb'; injection hb' with hb'; have := hb2.size; omega
theorem SRow.app {w w0 : World} {A A' : Option Addr} {c c' n : Nat} {xs : List (List UInt8)} {F : Nat → Prop} (h : SRow w w0.heap.size A c n xs) (hb : Below w0.heap.size w0 w) {s : ByteArray} {x : List UInt8} (hs : Sl w F 1 (.slice A' 1 c') 1 [.string s]) (he : s = bl x) (hX : n + 1 ≤ 8000000000) :
    ∃ A1 c1 w1, (Builtin.append_ #[48, 48] 48 #[.slice A n c, .slice A' 1 c']).run Tryz.prog w = .ok (.slice A1 (n + 1) c1) w1 ∧ SRow w1 w0.heap.size A1 c1 (n + 1) (xs ++ [x]) ∧ Below w0.heap.size w0 w1 := by
  obtain ⟨A7, c7, w7, hap, o7, gr7, a7, _⟩ := run_app (P := Tryz.prog) w 48 48 9 (.string ⟨#[]⟩) 1 16 Tryz.underlying48 infoStr rfl (by decide) (by decide) (.slice A n c) n _ h.2.1 F (.slice A' 1 c') 1 [.string s] hs (by simp [Value.oneCell']) (by omega)
  refine ⟨A7, c7, w7, hap, ⟨by rw [List.length_append, h.1]; rfl, ?_, fun b hb' => ?_⟩, hb.trans ⟨gr7.os, gr7.tape, gr7.output, gr7.size, fun b hb' => gr7.block b (by have := hb.size; omega) (fun e => by have := h.2.2 b e.symm; omega)⟩⟩
  · rw [he] at o7
    simpa [strsL] using o7
  · rcases a7 with h1 | h1
    · rw [h1] at hb'; exact h.2.2 b hb'
    · rw [h1] at hb'; injection hb' with hb'; have := hb.size; omega
theorem SRow.join {w : World} {B : Nat} {A : Option Addr} {c n : Nat} {xs : List (List UInt8)} (h : SRow w B A c n xs) (hn : n ≤ 1000000) (sep : List UInt8) (hl : (Lib.join xs sep).length ≤ 140737488355328) :
    Calls Tryz.prog 38 #[.slice A n c, .string (bl sep)] w fun e w' => e = .returned (.string (bl (Lib.join xs sep))) ∧ Below w.heap.size w w' := by
  obtain ⟨hx, ho, _⟩ := h
  by_cases h0 : n = 0
  · subst h0
    obtain rfl : xs = [] := List.length_eq_zero_iff.1 hx
    refine (Tryz.strings_Join_none A c (bl sep) w).mono ?_
    rintro e w' ⟨rfl, rfl⟩
    exact ⟨rfl, Below.refl _ _⟩
  · obtain ⟨g, cap, hv, _, hgl⟩ := ho.form (by omega)
    simp only [Value.slice.injEq] at hv
    obtain ⟨rfl, _, rfl⟩ := hv
    have hxl : (xs.map bl).length = n := by rw [List.length_map, hx]
    have hcells : ∀ (j : Nat) x, (xs.map bl)[j]? = some x → w.cell? ⟨g, 0 + j, none⟩ = some (.string x) := by
      intro j x hj
      have h1 : (strsL xs)[j]? = some (.string x) := by
        simp only [List.getElem?_map, Option.map_eq_some_iff] at hj
        obtain ⟨y, hy, rfl⟩ := hj
        exact strsL_get hy
      have := ho.cells rfl j _ h1
      rwa [add_lit0] at this
    have hmj : (xs.map bl).map (·.data.toList) = xs := by
      rw [List.map_map]
      exact List.map_id'' (fun x => bl_data x) _
    have hcap : n ≤ c := by
      obtain ⟨A', c', h, h2, _⟩ := own_form ho
      simp only [Value.slice.injEq] at h
      omega
    have hjoin := Tryz.strings_Join g 0 c (xs.map bl) (bl sep) w hcells hgl (by omega) (by omega) (by rw [hmj, bl_data]; exact hl)
    rw [hxl, hmj, bl_data] at hjoin
    exact hjoin
theorem tv_len {v : Ver} (hv : v.Ok) : (tv v).1.length ≤ 60 := by
  unfold tv
  cases hm : v.may with
  | false => simp
  | true =>
    rw [if_pos rfl]
    show v.text.length ≤ 60
    have h1 := nums_len hv hm
    have ht := v.may_t hm
    unfold tagOk at ht
    simp only [Bool.and_eq_true, decide_eq_true_eq] at ht
    unfold Ver.text tagText
    rw [List.length_append]
    split
    · simp; omega
    · rw [List.length_cons]; omega
theorem bl_app (x y : List UInt8) : bl x ++ bl y = bl (x ++ y) := by
  rw [bl_eta (bl x ++ bl y)]
  simp
end Go.Proofs.YteeijjhgdplifaaGreatDoor
