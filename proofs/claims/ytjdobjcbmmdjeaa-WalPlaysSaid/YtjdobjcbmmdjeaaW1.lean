/- stillroomlaw04: what a sector is made of -/
import Derived.Test.YtjdobjcbmmdjeaaB3
namespace Go.Proofs.Ytjdobjcbmmdjeaa
open Go.RowKit

abbrev wactV (k n back : Int) (b : Value) (fill : UInt8) (keep : Value) : Value := .agg #[.int .i64 k, .int .i64 n, .int .i64 back, b, .int .u8 (fill.toNat : Int), keep]

set_option maxRecDepth 100000 in
/-- stillroomlaw04.sector -/
theorem wsector_any (k n back : Int) (A : Option Addr) (m c : Nat) (fill : UInt8) (A2 : Option Addr) (n2 c2 : Nat) (l : List UInt8) (F : Nat → Prop) (w : World) (h : Sl w F 1 (.slice A m c) m (B8 l)) (hm : m ≤ 140737488351232) :
    Calls Try.prog 27 #[wactV k n back (.slice A m c) fill (.slice A2 n2 c2)] w fun e w' => ∃ v, e = .returned v ∧ NewBytes w w' v (secOf l fill false) := by
  have hl : l.length = m := by have := h.1; simpa [B8] using this
  unfold wactV
  have H := Lib.hid h
  have HL := Lib.hid hl
  clear h hl
  have hfin : ∀ (j : Nat), ¬ (l.length + j < 256) → (j = 0 ∨ l.length + j = 256) → (B8 (l ++ List.replicate j fill)).take 256 = B8 (secOf l fill false) := by
    intro j h1 h2
    unfold secOf
    rw [if_neg (by simp), B8_take]
    congr 1
    rcases h2 with rfl | h2
    · rw [show 256 - l.length = 0 from by omega]
    · rw [show 256 - l.length = j from by omega]
  have HF := Lib.hid hfin; clear hfin
  go_enter Try.func27, Try.ntmps27
  go_wp2_with (at_builtin
               refine wpList_app _ rfl (.tmp 4) (.tmp 6) 22 rfl 5 (.int .u8 0) 1 1 Try.underlying22 info5 rfl (by omega) (by omega) (.slice (some ⟨w.heap.size + 1, 0, none⟩) 0 0) 0 [] rfl
                   ?_ F (.slice A m c) m (B8 l) rfl ?_ (B8_one l) (by omega) ?_
               rotate_left 2
               intro A' c' w' hown hg hat hnil
               clear hnil
               have hb : Hid (Below w.heap.size w w') := (((Below.refl _ _).alloc (Nat.le_refl _) _).alloc (by simp) _).grown hg (by simp; omega) (by simp [Value.ownBlock])
               have hbox : Blk w' w.heap.size 58 [.int .i64 k, .int .i64 n, .int .i64 back, .slice A m c, .int .u8 (fill.toNat : Int), .slice A2 n2 c2] := ((Blk.new w 58 _).alloc _).grown hg (by simp [Value.ownBlock])
               have hfr : Hid (∀ b, (Value.slice A' (0 + m) c').ownBlock = some b → w.heap.size < b) := by
                 intro b hb
                 rcases hat with e | e <;> rw [e] at hb <;> simp [Value.ownBlock] at hb <;> omega
               have HW := Lib.hid (And.intro hown hbox)
               clear hown hg hat hbox)
  case refine_1 => simpa using own_of_blk (cs := []) (Blk.new (w.alloc (.cells #[.int .i64 k, .int .i64 n, .int .i64 back, .slice A m c, .int .u8 (fill.toNat : Int), .slice A2 n2 c2] 58)) 5 #[]) 1 0 rfl (by simp [maxLen])
  case refine_2 => exact H.out.below (by omega) (((Below.refl _ _).alloc (Nat.le_refl _) _).alloc (by simp) _)
  go_loopg [3] (256 - m) (fun kq b wr => ∃ (A1 : Option Addr) (c1 j : Nat), b = .slice A1 (m + j) c1 ∧ kq = 256 - (m + j) ∧ (j = 0 ∨ m + j ≤ 256) ∧
      Hid (wr.ownsRow 0 5 1 (.slice A1 (m + j) c1) (m + j) (B8 (l ++ List.replicate j fill))) ∧ Hid (Below w.heap.size w wr) ∧
      Hid (∀ b, (Value.slice A1 (m + j) c1).ownBlock = some b → w.heap.size < b) ∧ Hid (Blk wr w.heap.size 58 [.int .i64 k, .int .i64 n, .int .i64 back, .slice A m c, .int .u8 (fill.toNat : Int), .slice A2 n2 c2]))
  case atStart =>
    have h := HW.out
    simp only [Nat.zero_add, List.nil_append] at h hfr
    exact ⟨A', c', 0, by simp, by simp, .inl rfl, Lib.hid (by simpa using h.1), hb, Lib.hid (by simpa using hfr.out), Lib.hid h.2⟩
  case round =>
    clear HW hb hfr
    obtain ⟨A1, c1, j, rfl, rfl, hj, ho, hb, hf, hx⟩ := hrel
    have c3 : wr.cell? ⟨w.heap.size, 4, none⟩ = some (.int .u8 (fill.toNat : Int)) := by rw [Blk.cell hx.out]; rfl
    by_cases hlt : m + j < 256
    · go_wp2_with (at_builtin
                   refine wpList_app _ rfl (.tmp 11) (.tmp 14) 22 rfl 5 (.int .u8 0) 1 1 Try.underlying22 info5 rfl (by omega) (by omega) (.slice A1 (m + j) c1) (m + j) _ rfl
                       (ho.out.alloc _) _ (.slice (some ⟨wr.heap.size, 0, none⟩) 1 1) 1 [.int .u8 (fill.toNat : Int)] rfl (Sl.one wr 5 _) (by simp [Value.oneCell']) (by omega) ?_
                   intro A3 c3' w3 hown hg hat hnil
                   clear hnil
                   have HW := Lib.hid (And.intro hown (And.intro hg hat))
                   clear hown hg hat)
      obtain ⟨hown, hg, hat⟩ := HW.out
      have hsz : w.heap.size < wr.heap.size := Blk.lt hx.out
      go_roundg (256 - (m + (j + 1)))
      case rel =>
        have e : B8 (l ++ List.replicate j fill) ++ [Value.int .u8 (fill.toNat : Int)] = B8 (l ++ List.replicate (j + 1) fill) := by rw [List.replicate_succ', ← List.append_assoc, B8_append _ [fill]]; rfl
        rw [e] at hown
        refine ⟨A3, c3', j + 1, rfl, rfl, .inr (by omega), hown, ?_, ?_, ?_⟩
        · exact (hb.out.alloc (by omega) _).grown hg (by simp; omega) (fun b h => by have := hf.out b h; omega)
        · intro b h
          rcases hat with e | e
          · exact hf.out b (by rw [← e]; exact h)
          · have h' : (Value.slice A3 (m + j + 1) c3').ownBlock = some b := h
            rw [h'] at e; injection e with e; simp at e; omega
        · exact (Blk.alloc hx.out _).grown hg (fun e => by have := hf.out _ e.symm; omega)
      case measure => omega
    · have hc : 256 ≤ c1 := by
        obtain ⟨A5, c5, e, h1, _⟩ := own_form ho.out
        simp only [Value.slice.injEq] at e
        omega
      go_wp2
      go_ret
      obtain rfl := HL.out
      have h := own_take ho.out (n' := 256) (by omega)
      rw [Nat.mul_one, HF.out j hlt (by omega)] at h
      have hlen : (secOf l fill false).length = 256 := by have := h.1; rw [B8_length] at this; omega
      refine ⟨.slice A1 256 c1, rfl, ⟨A1, c1, by rw [hlen]⟩, by rw [hlen]; exact h, fun b hb => ?_, hb.out⟩
      have := hf.out b (by cases A1 <;> exact hb)
      omega
end Go.Proofs.Ytjdobjcbmmdjeaa
