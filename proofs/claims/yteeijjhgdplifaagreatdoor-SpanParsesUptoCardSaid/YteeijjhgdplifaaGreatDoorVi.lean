/- Contract of version.Text. -/
import Derived.Test.YteeijjhgdplifaaGreatDoorVh
namespace Go.Proofs.YteeijjhgdplifaaGreatDoor
open Go.RowKit

theorem wpList_app_run {P : Program} (w : World) {ops : Array Oper} {rest : List Oper} {o : Oper} {a : Act} {Q : Exit → Act → World → Prop} (hgd : o.guard = none) (s x : Operand) (t t' : TypeId)
    (ho : o.op = .call { callee := .builtin .append, args := #[s, x], argTypes := #[t, t'] }) (vs vx : Value) (hs : a.eval s = vs) (hx : a.eval x = vx) (r : Value) (w' : World) (hrun : (Builtin.append_ #[t, t'] o.type #[vs, vx]).run P w = .ok r w')
    (h : wpList P ops Q rest (a.put o.dst r) w') : wpList P ops Q (o :: rest) a w := by
  refine wpList_plain hgd fun K hK => ?_
  unfold Oper.wp execOp
  simp only [ho, resolve, invoke, builtin, Sem.run_bind, Sem.run_pure, Result.andThen_ok, List.map_toArray, List.map_cons, List.map_nil, hs, hx, hrun]
  exact hK _ _ h
/-- what version.Text answers -/
def tv (v : Ver) : List UInt8 × Int := if v.may then (v.text, 0) else ([], 20)
def strsL (l : List (List UInt8)) : List Value := l.map fun x => .string (bl x)
theorem strsL_get {l : List (List UInt8)} {i : Nat} {x : List UInt8} (h : l[i]? = some x) : (strsL l)[i]? = some (.string (bl x)) := by simp [strsL, h]
theorem infoStr : (Tryz.prog.info? 9).map (fun i => (i.zero, i.size, i.bytes)) = some (some (.string ⟨#[]⟩), 1, 16) := by kernel_rfl
theorem strsL_one (l : List (List UInt8)) : ∀ u ∈ strsL l, u.oneCell' = true := by intro u hu; obtain ⟨b, _, rfl⟩ := List.mem_map.1 hu; rfl
theorem itoa_len {n : Int} (h0 : 0 ≤ n) (h : n ≤ 999999999) : (Lib.itoa n).length ≤ 9 := by
  rw [itoa_nat h0]
  exact (dec_length_iff _).2 (by omega)
theorem join_len {sep : List UInt8} {k : Nat} : ∀ {xs : List (List UInt8)}, (∀ x ∈ xs, x.length ≤ k) → (Lib.join xs sep).length ≤ xs.length * (k + sep.length)
  | [], _ => by simp [Lib.join_nil]
  | x :: r, h => by
    rw [Lib.join_cons, List.length_append]
    have h1 := h x (by simp)
    have h2 : (Lib.joinTail sep r).length ≤ r.length * (k + sep.length) := by
      have hr : ∀ y ∈ r, y.length ≤ k := fun y hy => h y (List.mem_cons_of_mem _ hy)
      clear h h1
      induction r with
      | nil => simp [Lib.joinTail]
      | cons y r ih =>
        rw [joinTail_cons, List.length_append, List.length_append, List.length_cons, Nat.succ_mul]
        have := hr y (by simp)
        have := ih (fun z hz => hr z (List.mem_cons_of_mem _ hz))
        omega
    rw [List.length_cons, Nat.succ_mul]
    omega
theorem nums_len {v : Ver} (hv : v.Ok) (h : v.may = true) : (Lib.join v.nums [46]).length ≤ 40 := by
  have h1 : ∀ x ∈ v.nums, x.length ≤ 9 := by
    intro x hx
    obtain ⟨u, hu, rfl⟩ := Ver.nums_dec hv h x hx
    exact (dec_length_iff _).2 hu
  have h2 := join_len (sep := [46]) h1
  have h3 : v.nums.length ≤ 4 := by
    have : v.ns.length = 4 := hv
    simp [Ver.nums, this]
    omega
  have : v.nums.length * (9 + [46].length) ≤ 4 * 10 := Nat.mul_le_mul h3 (by decide)
  omega

set_option maxRecDepth 100000 in
set_option maxHeartbeats 2000000 in
theorem text_okT (v : Ver) (hv : v.Ok) (hs : v.t.length ≤ 140737488355328) (w : World) (hg : GT w) : Calls Tryz.prog 20 #[v.val] w fun e w' => e = .returned (.tuple #[.string (bl (tv v).1), .int .i64 (tv v).2]) ∧ Below w.heap.size w w' := by
  obtain ⟨w1, hw1⟩ : ∃ w1, w1 = w.alloc (.cells v.cells.toArray 38) := ⟨_, rfl⟩
  obtain ⟨g1, hg1⟩ : ∃ g1, g1 = w.heap.size := ⟨_, rfl⟩
  have hb1 : Below w.heap.size w w1 := by rw [hw1]; exact (Below.refl _ _).alloc (Nat.le_refl _) _
  have k1 : Blk w1 g1 38 v.cells := by rw [hw1, hg1]; exact Blk.new _ _ v.cells.toArray
  have HK1 := Lib.hid k1
  have HL1 := Lib.hid (vload k1 hv)
  have HV := Lib.hid hv
  have HB1 := Lib.hid hb1
  have HG1 := Lib.hid (hg.below hb1)
  have HS := Lib.hid hs
  have HW1 := Lib.hid hw1
  have HGN := Lib.hid hg1
  obtain ⟨RES, hRES⟩ : ∃ RES, RES = tv v := ⟨_, rfl⟩
  have HRES := Lib.hid hRES
  rw [← hRES]
  clear hw1 hg1 hb1 k1 hv hg hs hRES
  rw [show v.val = .agg v.cells.toArray from rfl]
  go_enter Tryz.func20, Tryz.ntmps20
  go_upto_region 1 with fail
  rw [← HW1.out, ← HGN.out]
  go_wp2_with (refine wpList_load_run rfl 38 (.tmp 1) rfl g1 rfl _ HL1.out ?_)
  refine (may_ok v HV.out HS.out w1).mono ?_
  rintro e w2 ⟨rfl, hb2⟩
  have k2 := HK1.out.below' hb2
  have HK2 := Lib.hid k2
  have HB2 : Hid (Below w.heap.size w w2) := Lib.hid (HB1.out.trans (hb2.mono HB1.out.size))
  have HG2 := Lib.hid (HG1.out.below hb2)
  have HGL : Hid (g1 < w2.heap.size) := Lib.hid k2.lt
  cases hm : v.may
  · have hR : Hid (RES = ([], 20)) := Lib.hid (by rw [HRES.out]; unfold tv; rw [hm]; rfl)
    clear hb2 k2 hm
    go_wp2_with fail
    go_ret2
    exact ⟨by rw [hR.out]; rfl, HB2.out⟩
  · have hR : Hid (RES = (v.text, 0)) := Lib.hid (by rw [HRES.out]; unfold tv; rw [hm]; rfl)
    have HM := Lib.hid hm
    obtain ⟨hc1, hc4⟩ := v.may_c hm
    obtain ⟨k, hk⟩ : ∃ k : Nat, v.c = (k : Int) := ⟨v.c.toNat, by omega⟩
    have hk1 : 1 ≤ k := by omega
    have hk4 : k ≤ 4 := by omega
    have hkI : (k : Int) ≤ 4 := by omega
    have hk0 : 0 ≤ (k : Int) := by omega
    have HKC := Lib.hid hk
    have c4 : w2.cell? ⟨g1, 4, none⟩ = some (.int .i64 (k : Int)) := by rw [k2.cell, Ver.cells_c HV.out, hk]
    have hgl := k2.lt
    have HLE : Hid (w.heap.size ≤ g1) := Lib.hid (by rw [HGN.out]; exact Nat.le_refl _)
    have hnums : v.nums = (v.ns.take k).map Lib.itoa := by unfold Ver.nums; rw [hk]; rfl
    have HNU := Lib.hid hnums
    clear hb2 k2 hm hc1 hc4 hk hnums
    go_wp2_with fail
    go_loopg [16, 4] k (fun kq iv sv wr => ∃ (i : Nat) (A : Option Addr) (c : Nat), iv = .int .i64 i ∧ sv = .slice A i c ∧ i ≤ k ∧ kq = k - i ∧ Hid (wr.ownsRow 0 9 1 (.slice A i c) i (strsL ((v.ns.take i).map Lib.itoa))) ∧ Hid (∀ b, (Value.slice A i c).ownBlock = some b → w2.heap.size ≤ b) ∧ Hid (Blk wr g1 38 v.cells) ∧ Hid (GT wr) ∧ Hid (Below w2.heap.size w2 wr))
    case atStart => exact ⟨0, none, 0, rfl, rfl, Nat.zero_le _, rfl, Lib.hid (own_nil0 _ _ _), Lib.hid (fun b h => by simp [Value.ownBlock] at h), HK2, HG2, Lib.hid (Below.refl _ _)⟩
    case round =>
      obtain ⟨i, A, c, rfl, rfl, hi, rfl, RO, RN, RK, RG, RB⟩ := hrel
      by_cases hlt : i < k
      · obtain ⟨x, hx⟩ : ∃ x, v.ns[i]? = some x := ⟨_, List.getElem?_eq_getElem (by have : v.ns.length = 4 := HV.out; omega)⟩
        have cx : wr.cell? ⟨g1, i, none⟩ = some (.int .i64 x) := by rw [RK.out.cell, Ver.cells_n hx]
        have l1 := RK.out.lt
        have hxr := v.may_num HM.out i (by omega)
        rw [List.getD_eq_getElem?_getD, hx, Option.getD_some] at hxr
        have HIT := Lib.hid (itoa_ok x (by omega) (by omega) wr RG.out)
        have HX := Lib.hid hx
        have HI4 : Hid (i + 1 ≤ 1000) := Lib.hid (by omega)
        clear hx hxr
        go_wp2_with fail
        refine HIT.out.mono ?_
        rintro e w5 ⟨rfl, hb5⟩
        obtain ⟨w6, hw6⟩ : ∃ w6, w6 = w5.alloc (.cells #[.string (bl (Lib.itoa x))] 9) := ⟨_, rfl⟩
        have hb56 : Below w5.heap.size w5 w6 := by rw [hw6]; exact (Below.refl _ _).alloc (Nat.le_refl _) _
        have hb6 : Below wr.heap.size wr w6 := hb5.trans (hb56.mono hb5.size)
        have ho6 := own_below RO.out hb6
        obtain ⟨A7, c7, w7, hap, o7, gr7, a7, _⟩ := run_app (P := Tryz.prog) w6 48 48 9 (.string ⟨#[]⟩) 1 16 Tryz.underlying48 infoStr rfl (by decide) (by decide) (.slice A i c) i _ ho6 _ (.slice (some ⟨w5.heap.size, 0, none⟩) 1 1) 1 [.string (bl (Lib.itoa x))] (by rw [hw6]; exact Sl.one w5 9 _) (by simp [Value.oneCell']) (by have := HI4.out; omega)
        have hb7 : Below w2.heap.size w2 w7 := (RB.out.trans (hb6.mono RB.out.size)).trans ⟨gr7.os, gr7.tape, gr7.output, gr7.size, fun b hb => gr7.block b (by have := RB.out.size; have := hb6.size; omega) (fun e => by have := RN.out b e.symm; omega)⟩
        have f1 : Hid (w7.ownsRow 0 9 1 (.slice A7 (i + 1) c7) (i + 1) (strsL ((v.ns.take (i + 1)).map Lib.itoa))) := Lib.hid (by
          rw [List.take_add_one, HX.out]
          simpa [strsL] using o7)
        have f2 : Hid (∀ b, (Value.slice A7 (i + 1) c7).ownBlock = some b → w2.heap.size ≤ b) := Lib.hid (fun b hb => by
          rcases a7 with h | h
          · rw [h] at hb; exact RN.out b hb
          · rw [h] at hb; injection hb with hb; have := RB.out.size; have := hb6.size; omega)
        have f3 : Hid (Blk w7 g1 38 v.cells) := Lib.hid ((RK.out.below' hb6).grown gr7 (fun e => by have := RN.out g1 e.symm; have := HGL.out; omega))
        have f4 : Hid (GT w7) := Lib.hid (HG2.out.below hb7)
        have f5 := Lib.hid hb7
        have HAP := Lib.hid hap
        have HW6 := Lib.hid hw6
        clear hb5 hw6 hb56 hb6 ho6 hap o7 gr7 a7 hb7 RO RN RK RG RB cx l1
        go_wp2_with (at_builtin; (try rw [← HW6.out]); refine wpList_app_run _ rfl (.tmp 20) (.tmp 23) 48 48 rfl _ _ rfl rfl _ _ HAP.out ?_)
        go_roundg (k - (i + 1))
        case measure => omega
        case rel => exact ⟨i + 1, A7, c7, by go_num, rfl, by omega, rfl, f1, f2, f3, f4, f5⟩
      · obtain rfl : i = k := by omega
        obtain ⟨g, cap, hv, _, hgl⟩ := RO.out.form (by omega)
        simp only [Value.slice.injEq] at hv
        obtain ⟨rfl, hx, rfl⟩ := hv
        clear hx
        have hxl : (v.nums.map bl).length = i := by have h4 : v.ns.length = 4 := HV.out; rw [HNU.out]; simp [h4]; omega
        have hcells : ∀ (j : Nat) x, (v.nums.map bl)[j]? = some x → wr.cell? ⟨g, 0 + j, none⟩ = some (.string x) := by
          intro j x hj
          have h1 : (strsL ((v.ns.take i).map Lib.itoa))[j]? = some (.string x) := by
            rw [← HNU.out]
            simp only [List.getElem?_map, Option.map_eq_some_iff] at hj
            obtain ⟨y, hy, rfl⟩ := hj
            exact strsL_get hy
          have := RO.out.cells rfl j _ h1
          rwa [add_lit0] at this
        have hmj : (v.nums.map bl).map (·.data.toList) = v.nums := by
          rw [List.map_map]
          exact List.map_id'' (fun x => bl_data x) _
        have hjl := nums_len HV.out HM.out
        have hcap : i ≤ c := by
          obtain ⟨A', c', h, h2, _⟩ := own_form RO.out
          simp only [Value.slice.injEq] at h
          omega
        have hjoin := Tryz.strings_Join g 0 c (v.nums.map bl) (bl [46]) wr hcells hgl (by omega) (by omega) (by rw [hmj, bl_data]; omega)
        rw [hxl, hmj, bl_data] at hjoin
        have HJ := Lib.hid hjoin
        obtain ⟨sj, hsj⟩ : ∃ sj, sj = bl (Lib.join v.nums [46]) := ⟨_, rfl⟩
        have hsjz : sj.size ≤ 40 := by rw [hsj, bl_size]; exact hjl
        obtain ⟨sa, hsa⟩ : ∃ sa, sa = bl v.t := ⟨_, rfl⟩
        have hsaz : sa.size ≤ 140737488355328 := by rw [hsa, bl_size]; exact HS.out
        have HSJ := Lib.hid hsj
        have HSA := Lib.hid hsa
        clear hxl hcells hmj hjl hcap hjoin hsj hsa hgl
        go_wp2_with fail
        refine HJ.out.mono ?_
        rintro e w5 ⟨rfl, hb5⟩
        rw [show ({ data := (Lib.join v.nums [46]).toArray } : ByteArray) = sj from HSJ.out.symm]
        have k5 := RK.out.below' hb5
        have c5 : w5.cell? ⟨g1, 5, none⟩ = some (.string sa) := by rw [k5.cell, Ver.cells_t HV.out, HSA.out]
        have l5 := k5.lt
        have HB5 : Hid (Below w.heap.size w w5) := Lib.hid (HB2.out.trans ((RB.out.trans (hb5.mono RB.out.size)).mono HB2.out.size))
        have hsal : sa.toList = v.t := by rw [HSA.out, bl_toList]
        by_cases ht : v.t = []
        · have k1 : sa.toList = [] := by rw [hsal, ht]
          have HT : Hid (sj = bl v.text) := Lib.hid (by rw [HSJ.out]; unfold Ver.text tagText; rw [if_pos ht, List.append_nil])
          clear hb5 k5 hsal ht
          go_wp2_with fail
          go_ret2
          exact ⟨by rw [hR.out, ← HT.out]; rfl, HB5.out⟩
        · have k1 : ¬ sa.toList = [] := by rw [hsal]; exact ht
          have k2 : sa.toList.isEmpty = false := by simpa using k1
          obtain ⟨sm, hsm⟩ : ∃ sm, sm = bl (45 :: v.t) := ⟨_, rfl⟩
          have e1 : (({ data := #[45] } : ByteArray) ++ sa) = sm := by
            rw [bl_eta (({ data := #[45] } : ByteArray) ++ sa), hsm, HSA.out]
            simp
          obtain ⟨st, hst⟩ : ∃ st, st = bl v.text := ⟨_, rfl⟩
          have e2 : sj ++ sm = st := by
            rw [bl_eta (sj ++ sm), hst, hsm, HSJ.out]
            unfold Ver.text tagText
            rw [if_neg ht]
            simp
          have hsmz : sm.size ≤ 140737488355329 := by rw [hsm, bl_size, List.length_cons]; have := HS.out; omega
          have HT := Lib.hid hst
          clear hb5 k5 hsal ht hsm hst
          go_wp2_with fail
          go_ret2
          exact ⟨by rw [hR.out, ← HT.out]; rfl, HB5.out⟩
theorem text_ok (v : Ver) (hv : v.Ok) (hs : v.t.length ≤ 140737488355328) (w : World) (hg : GV w) : Calls Tryz.prog 20 #[v.val] w fun e w' => e = .returned (.tuple #[.string (bl (tv v).1), .int .i64 (tv v).2]) ∧ Below w.heap.size w w' := text_okT v hv hs w hg.gt
end Go.Proofs.YteeijjhgdplifaaGreatDoor
