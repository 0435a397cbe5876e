/- What the laws' ends over versions share: the library's variables, versions that came in. -/
import Derived.Test.YteeijjhgdplifaaGreatDoorRows
import Derived.Test.YteeijjhgdplifaaGreatDoorCards
import Derived.Test.YteeijjhgdplifaaGreatDoorTie
import Derived.Test.YteeijjhgdplifaaGreatDoorOp
import Derived.Test.YteeijjhgdplifaaGreatDoorVg
import Derived.Deep.DeepHandedRow
import Derived.Deep.DeepWitnessRowRef
import Derived.Lib.LaidTab
import Derived.Stop.LaidErr
import Derived.Stop.Joined
import Derived.Shelf.Vars
import Derived.LaidMore
namespace Go.Proofs.YteeijjhgdplifaaGreatDoor
open Go.RowKit Go.ChangeShapes Go.WideShapes Go.ChangeAt Go.Deep

theorem own : ownKnob Tryz.prog.godebug = none := by kernel_rfl
theorem laidOut : laidOutB Tryz.prog = true := by kernel_rfl
theorem reach_eq : reachBytes = 140737488351232 := by decide

/-- the world in which the listed variables lie as they are laid -/
noncomputable def laidW (os : Os) : World :=
  { World.doorLaid Tryz.prog 72 os with heap := (World.doorLaid Tryz.prog 72 os).heap.modify 2 fun
      | .cells _ t frozen => .cells (Pinned.utf8FirstZ.map fun (n : Nat) => Value.int .u8 (n : Int)).toArray t frozen
      | o => o }
theorem pow10_eq : (Rows.laid_internal_strconv_uint64pow10 : DataW Unit) = Lib.tabData .u64 Lib.pow10Tab := by kernel_rfl
theorem errStar : "*errors.errorString" = "*" ++ "errors.errorString" := by decide
theorem errRow (u : TypeId) (h : Tryz.prog.typeName? 3 u = some "*errors.errorString") : u = 185 :=
  typeName_ptr_named (nm := "errors.errorString") (by rw [← errStar]; kernel_rfl) (by kernel_rfl) (by decide) u (by rw [← errStar]; exact h)
set_option maxRecDepth 100000 in
theorem gv_of {W : World} (hL : laidMetH Tryz.prog Rows.spanAlgebraRow.laid W) (hsh : W.ShapedOpen Tryz.prog) : GV W := by
  rw [MakeChecks.laidMetH_plain _ _ _ (by kernel_rfl)] at hL
  obtain ⟨rest, h3⟩ : ∃ rest, laidMet Tryz.prog (("internal/strconv.uint64pow10", Lib.tabData .u64 Lib.pow10Tab) :: rest) W := ⟨_, by rw [← pow10_eq]; exact hL.tail.tail⟩
  have htab : Lib.TabIs Tryz.prog W "internal/strconv.uint64pow10" .u64 Lib.pow10Tab := Lib.tabIs_of_head (g := 1) (n := 20) (by kernel_rfl) (t := 166) (by kernel_rfl) Tryz.underlying166 Tryz.underlying143 (by kernel_rfl) (by kernel_rfl) h3
  have h5 := hL.tail.tail.tail.tail
  have h6 := h5.tail
  obtain ⟨m, hm⟩ := Tryz.laysM145.s1_3 W hsh
  obtain ⟨a1, s1, v1, _⟩ := laid_sentinel h5 (g := 5) (by kernel_rfl) (ti := 96) (by kernel_rfl) Tryz.underlying96 (tp := 185) errRow Tryz.underlying185 Tryz.underlying187 rfl rfl Tryz.underlying9 (by kernel_rfl) (by kernel_rfl)
  obtain ⟨a2, s2, v2, _⟩ := laid_sentinel h6 (g := 4) (by kernel_rfl) (ti := 96) (by kernel_rfl) Tryz.underlying96 (tp := 185) errRow Tryz.underlying185 Tryz.underlying187 rfl rfl Tryz.underlying9 (by kernel_rfl) (by kernel_rfl)
  have q2 : W.cell? ⟨4, 0, none⟩ = some (.iface 185 (.pointer (some a2))) := World.var?_cell (show Tryz.prog.globalNamed "strconv.ErrSyntax" = some 4 by kernel_rfl) v2 0
  have q1 : W.cell? ⟨5, 0, none⟩ = some (.iface 185 (.pointer (some a1))) := World.var?_cell (show Tryz.prog.globalNamed "strconv.ErrRange" = some 5 by kernel_rfl) v1 0
  exact ⟨⟨m, hm⟩, ⟨_, q2, .inr ⟨_, _, rfl⟩⟩, ⟨_, q1, .inr ⟨_, _, rfl⟩⟩, htab⟩
set_option maxRecDepth 100000 in
theorem open_ver {H : Type} {enc : TypeId × Value → H} {w : World} {fuel : Nat} {cs : List Value} {x : DataW H × List MemPlace} (h : DataW.trod enc Tryz.prog w 0 (fun _ => true) true fuel 38 cs = some x) (hB : Within Tryz.prog reachBytes 38 x.1) :
    ∃ v : Ver, cs = v.cells ∧ v.Ok ∧ v.t.length ≤ 140737488351232 := by
  obtain ⟨ys, n, _, hx, hlen, hyl, hg⟩ := DataW.trod_struct Tryz.underlying38 h
  have hc6 : Tryz.prog.cellsOf 38 = 6 := by kernel_rfl
  have hc4 : Tryz.prog.cellsOf 35 = 4 := by kernel_rfl
  have hc1 : Tryz.prog.cellsOf 3 = 1 := by kernel_rfl
  have hcs : Tryz.prog.cellsOf 9 = 1 := by kernel_rfl
  have hl : cs.length = 6 := by rw [hlen, hc6]
  have g0 : DataW.trod enc Tryz.prog w 0 (fun _ => true) true n 35 ((cs.drop 0).take (Tryz.prog.cellsOf 35)) = ys[0]? := hg 0 _ rfl
  have g1 : DataW.trod enc Tryz.prog w 0 (fun _ => true) true n 3 ((cs.drop 4).take (Tryz.prog.cellsOf 3)) = ys[1]? := hg 1 _ rfl
  have g2 : DataW.trod enc Tryz.prog w 0 (fun _ => true) true n 9 ((cs.drop 5).take (Tryz.prog.cellsOf 9)) = ys[2]? := hg 2 _ rfl
  rw [hc4] at g0
  rw [hc1] at g1
  rw [hcs] at g2
  have hyl3 : ys.length = 3 := hyl
  match cs, hl, ys, hyl3 with
  | [c0, c1, c2, c3, c4, c5], _, [y0, y1, y2], _ =>
    have e0 : DataW.trod enc Tryz.prog w 0 (fun _ => true) true n 35 [c0, c1, c2, c3] = some y0 := g0
    have e1 : DataW.trod enc Tryz.prog w 0 (fun _ => true) true n 3 [c4] = some y1 := g1
    have e2 : DataW.trod enc Tryz.prog w 0 (fun _ => true) true n 9 [c5] = some y2 := g2
    obtain ⟨xs, m, _, _, _, hxl, hel⟩ := DataW.trod_array Tryz.underlying35 e0
    rw [hc1] at hel
    match xs, hxl with
    | [x0, x1, x2, x3], _ =>
      have k0 : DataW.trod enc Tryz.prog w 0 (fun _ => true) true m 3 [c0] = some x0 := hel 0 (by decide)
      have k1 : DataW.trod enc Tryz.prog w 0 (fun _ => true) true m 3 [c1] = some x1 := hel 1 (by decide)
      have k2 : DataW.trod enc Tryz.prog w 0 (fun _ => true) true m 3 [c2] = some x2 := hel 2 (by decide)
      have k3 : DataW.trod enc Tryz.prog w 0 (fun _ => true) true m 3 [c3] = some x3 := hel 3 (by decide)
      obtain ⟨n0, rfl, _⟩ := open_int1 Tryz.underlying3 k0
      obtain ⟨n1, rfl, _⟩ := open_int1 Tryz.underlying3 k1
      obtain ⟨n2, rfl, _⟩ := open_int1 Tryz.underlying3 k2
      obtain ⟨n3, rfl, _⟩ := open_int1 Tryz.underlying3 k3
      obtain ⟨c, rfl, _⟩ := open_int1 Tryz.underlying3 e1
      rw [hx] at hB
      have hB2 : Within Tryz.prog reachBytes 9 y2.1 := within_field Tryz.underlying38 hB (j := 2) rfl rfl
      obtain ⟨s, rfl, hs⟩ := open_str1 Tryz.underlying9 e2 hB2
      refine ⟨⟨[n0, n1, n2, n3], c, s.data.toList⟩, ?_, rfl, ?_⟩
      · show [_, _, _, _, _, _] = [Value.int .i64 n0, .int .i64 n1, .int .i64 n2, .int .i64 n3, .int .i64 c, .string (bl s.data.toList)]
        rw [← bl_eta]
      · show s.data.toList.length ≤ _
        rw [← Lib.size_eq, ← reach_eq]
        exact hs
end Go.Proofs.YteeijjhgdplifaaGreatDoor
