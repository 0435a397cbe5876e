/- VersionBack: its argument opened. -/
import Derived.Test.YteeijjhgdplifaaDoorVz
import Derived.Test.YteeijjhgdplifaaDoorVy
namespace Go.Proofs.YteeijjhgdplifaaDoor
open Go.RowKit Go.ChangeShapes Go.WideShapes Go.ChangeAt Go.Deep

set_option maxRecDepth 100000 in
theorem open_like {H : Type} {enc : TypeId × Value → H} {w : World} {fuel : Nat} {cs : List Value} {x : DataW H × List MemPlace} (h : DataW.trod enc Tryd.prog w 0 (fun _ => true) true fuel 52 cs = some x) (hB : Within Tryd.prog reachBytes 52 x.1) :
    ∃ (v : Ver) (rest : List Int) (tag : List UInt8), cs = likeCells v rest tag ∧ v.Ok ∧ v.t.length ≤ 140737488355328 ∧ rest.length = 4 ∧ tag.length ≤ 140737488355328 := by
  obtain ⟨ys, n, _, hx, hlen, hyl, hg⟩ := DataW.trod_struct Tryd.underlying52 h
  have hc11 : Tryd.prog.cellsOf 52 = 11 := by kernel_rfl
  have hc6 : Tryd.prog.cellsOf 24 = 6 := by kernel_rfl
  have hc4 : Tryd.prog.cellsOf 22 = 4 := by kernel_rfl
  have hc1 : Tryd.prog.cellsOf 3 = 1 := by kernel_rfl
  have hcs : Tryd.prog.cellsOf 9 = 1 := by kernel_rfl
  have hl : cs.length = 11 := by rw [hlen, hc11]
  have g0 : DataW.trod enc Tryd.prog w 0 (fun _ => true) true n 24 ((cs.drop 0).take (Tryd.prog.cellsOf 24)) = ys[0]? := hg 0 _ rfl
  have g1 : DataW.trod enc Tryd.prog w 0 (fun _ => true) true n 22 ((cs.drop 6).take (Tryd.prog.cellsOf 22)) = ys[1]? := hg 1 _ rfl
  have g2 : DataW.trod enc Tryd.prog w 0 (fun _ => true) true n 9 ((cs.drop 10).take (Tryd.prog.cellsOf 9)) = ys[2]? := hg 2 _ rfl
  rw [hc6] at g0
  rw [hc4] at g1
  rw [hcs] at g2
  have hyl3 : ys.length = 3 := hyl
  match cs, hl, ys, hyl3 with
  | [c0, c1, c2, c3, c4, c5, d0, d1, d2, d3, t0], _, [y0, y1, y2], _ =>
    have e0 : DataW.trod enc Tryd.prog w 0 (fun _ => true) true n 24 [c0, c1, c2, c3, c4, c5] = some y0 := g0
    have e1 : DataW.trod enc Tryd.prog w 0 (fun _ => true) true n 22 [d0, d1, d2, d3] = some y1 := g1
    have e2 : DataW.trod enc Tryd.prog w 0 (fun _ => true) true n 9 [t0] = some y2 := g2
    rw [hx] at hB
    have hB0 : Within Tryd.prog reachBytes 24 y0.1 := within_field Tryd.underlying52 hB (j := 0) rfl rfl
    have hB2 : Within Tryd.prog reachBytes 9 y2.1 := within_field Tryd.underlying52 hB (j := 2) rfl rfl
    obtain ⟨v, hv, hok, ht⟩ := open_ver e0 hB0
    obtain ⟨xs, m, _, _, _, hxl, hel⟩ := DataW.trod_array Tryd.underlying22 e1
    rw [hc1] at hel
    match xs, hxl with
    | [x0, x1, x2, x3], _ =>
      have k0 : DataW.trod enc Tryd.prog w 0 (fun _ => true) true m 3 [d0] = some x0 := hel 0 (by decide)
      have k1 : DataW.trod enc Tryd.prog w 0 (fun _ => true) true m 3 [d1] = some x1 := hel 1 (by decide)
      have k2 : DataW.trod enc Tryd.prog w 0 (fun _ => true) true m 3 [d2] = some x2 := hel 2 (by decide)
      have k3 : DataW.trod enc Tryd.prog w 0 (fun _ => true) true m 3 [d3] = some x3 := hel 3 (by decide)
      obtain ⟨n0, rfl, _⟩ := open_int1 Tryd.underlying3 k0
      obtain ⟨n1, rfl, _⟩ := open_int1 Tryd.underlying3 k1
      obtain ⟨n2, rfl, _⟩ := open_int1 Tryd.underlying3 k2
      obtain ⟨n3, rfl, _⟩ := open_int1 Tryd.underlying3 k3
      obtain ⟨s, rfl, hs⟩ := open_str1 Tryd.underlying9 e2 hB2
      refine ⟨v, [n0, n1, n2, n3], s.data.toList, ?_, hok, by omega, rfl, ?_⟩
      · unfold likeCells
        rw [← hv, show bl s.data.toList = s from (bl_eta s).symm]
        rfl
      · have hs' : s.size ≤ reachBytes := hs
        rw [reach_eq, Lib.size_eq] at hs'
        omega
end Go.Proofs.YteeijjhgdplifaaDoor
