/- Contracts of stillroomref04: Commit, Open. -/
import Derived.Test.YtjdobjcbmmdjeaaQ4
import Derived.Test.YtjdobjcbmmdjeaaW11
namespace Go.Proofs.Ytjdobjcbmmdjeaa
open Go.RowKit

theorem rcmI_facts {S : Dsk} {R : RDsk} {k a : Nat} {P l : List (Int × List UInt8)} (hg : RG S R k) (hj : JQ P l) (hb : ∀ n b, mget P n = some b → b.length = 256) (ha : a + l.length < k) : ∀ i, i ≤ l.length → RG (cmI S a P (l.map (·.1)) i) (rcmI R a l i) k ∧ (rcmI R a l i).first.length = k ∧ (rcmI R a l i).ev.length = R.ev.length + i := fun i hi => by
  have h := hg.cmI hj hb ha i hi
  refine ⟨h, h.rel.fl, ?_⟩
  clear h
  induction i with
  | zero => rfl
  | succ i ih =>
    rw [rcmI_succ (List.getElem?_eq_getElem (show i < l.length by omega))]
    simp only [rwr, List.length_append, List.length_singleton, ih (by omega)]
    omega

set_option maxRecDepth 100000 in
set_option maxHeartbeats 8000000 in
theorem rcommit_ok (w : World) (F G : Nat → Prop) (q r k : Nat) (Q : QJr) (S : Dsk) (R : RDsk) (P : List (Int × List UInt8)) (hQ : QAt w F q r Q) (hr : RefAt w G r R) (hdis : ∀ b, G b → ¬ F b) (hg : RG S R k) (hk : k ≤ 2048)
    (hj : JQ P Q.l) (hkk : ∀ n ∈ P.map (·.1), 0 ≤ n ∧ n < (k : Int)) (hbb : ∀ n b, mget P n = some b → b.length = 256) (h30 : Q.l.length ≤ 30) (ha : Q.at_ + Q.l.length < k) (hev : R.ev.length ≤ 1000000) :
    Calls Try.prog 37 #[.pointer (some ⟨q, 0, none⟩)] w fun e w' => e = .returned (.tuple #[]) ∧ QAt w' F q r ⟨Q.at_, Q.sec, []⟩ ∧ RefAt w' (fun b => G b ∨ (w.heap.size ≤ b ∧ b < w'.heap.size)) r (rcm R Q.at_ Q.l) ∧ Mod (fun b => G b ∨ F b) w w' := by
  obtain ⟨Aq, cq, c0, c1, c2, c3, ho, hqlt⟩ := hQ.cell
  obtain ⟨m, hme⟩ : ∃ m, m = Q.l.length := ⟨_, rfl⟩
  obtain ⟨a, hae⟩ : ∃ a, a = Q.at_ := ⟨_, rfl⟩
  have HEM : Hid (m = 0 → Q.l = [] ∧ rcm R Q.at_ Q.l = R) := Lib.hid fun h => by
    have : Q.l = [] := List.eq_nil_of_length_eq_zero (by omega)
    exact ⟨this, by unfold rcm; rw [if_pos this]⟩
  have HFin : Hid (m ≠ 0 → rcm R Q.at_ Q.l = rdoS (rfl_ (rwr (rfl_ (rcmI R a Q.l m)) a (header (Q.l.map (·.1))))) a (Q.l.map (·.1))) := Lib.hid fun h => by
    have : Q.l ≠ [] := fun e => h (by rw [hme, e]; rfl)
    unfold rcm rcommit
    rw [if_neg this, hme, hae]
  have HG := Lib.hid (rcmI_facts (a := a) hg hj hbb (by omega))
  rw [← hme] at HG
  have HCC : Hid (∀ wx, Mod G w wx → wx.cell? ⟨q, 0, none⟩ = some (.pointer (some ⟨r, 0, none⟩)) ∧ wx.cell? ⟨q, 1, none⟩ = some (.int .i64 (a : Int)) ∧ wx.cell? ⟨q, 3, none⟩ = some (.slice Aq m cq) ∧ q < wx.heap.size) := Lib.hid fun wx hm => by
    obtain ⟨A, c, h1, h2, _, _, _⟩ := hQ
    have h3 := h2.mod hm (fun e => hdis _ e h1)
    have e3 := h2.cell 3
    rw [c3] at e3
    have e3 : Value.slice A Q.l.length c = Value.slice Aq Q.l.length cq := by simpa using e3.symm
    refine ⟨by rw [h3.cell]; rfl, by rw [h3.cell, hae]; rfl, by rw [h3.cell, hme, ← e3]; rfl, h3.lt⟩
  have HOW : Hid (∀ wx, Mod G w wx → wx.ownsRow 0 104 2 (.slice Aq m cq) m (EV Q.l)) := Lib.hid fun wx hm => by
    obtain ⟨A, c, h1, h2, h3, h4, _⟩ := hQ
    have e3 := h2.cell 3
    rw [c3] at e3
    have e3 : Value.slice A Q.l.length c = Value.slice Aq Q.l.length cq := by simpa using e3.symm
    simp only [Value.slice.injEq, true_and] at e3
    obtain ⟨rfl, rfl⟩ := e3
    rw [hme]
    exact own_mod h3 hm (fun b hb e => hdis b e (h4 b hb))
  have HQ := Lib.hid hQ
  have HR := Lib.hid hr
  have HDIS := Lib.hid hdis
  have HJ := Lib.hid hj
  have HKK : Hid (∀ x ∈ Q.l, 0 ≤ x.1 ∧ x.1 < (k : Int)) := Lib.hid fun x hx => hkk x.1 ((hj.mem _).2 (List.mem_map.2 ⟨x, hx, rfl⟩))
  have HBB : Hid (∀ (i : Nat) (x : Int × List UInt8), Q.l[i]? = some x → x.2.length = 256) := Lib.hid fun i x hx => hbb _ _ (hj.at_ hx)
  have HME := Lib.hid hme
  have HAE := Lib.hid hae
  have HRG := Lib.hid hg
  rw [← hme] at h30 ha
  rw [← hae] at ha
  rw [← hme] at c3
  clear hQ hr hdis hg hj hkk hbb ho c0 c1 c2 hme hae
  go_enter Try.func37, Try.ntmps37
  by_cases hm0 : m = 0
  · subst hm0
    obtain ⟨e1, e2⟩ := HEM.out rfl
    have E1 := Lib.hid e1
    have E2 := Lib.hid e2
    clear e1 e2
    go_wp2_with fail
    refine bodyPost_ret (v := .tuple #[]) (by simp [results, Try.results37, go_sem]) rfl ?_
    refine ⟨rfl, ?_, ?_, Mod.refl _ _⟩
    · have h := HQ.out
      obtain ⟨at0, sec0, l0⟩ := Q
      have : l0 = [] := E1.out
      subst this
      exact h
    · rw [E2.out]
      exact HR.out.mono (fun b hb => .inl hb) (fun b hb => hb.elim (fun hb => HR.out.lt hb) (fun hb => hb.2))
  · have hm0i : ((m : Int) == 0) = false := by simp; omega
    have wm : IntKind.u64.wrap (m : Int) = (m : Int) := by rw [IntKind.wrap_u64]; omega
    have kc := fun (w : World) (C : Array Value) (n c : Nat) => Lib.run_convert_bytes_const (P := Try.prog) w 22 5 C n c Try.underlying22 Try.underlying5
    obtain ⟨wq, hwq⟩ : ∃ wq, wq = w.alloc (.cells #[.int .u8 115, .int .u8 116, .int .u8 105, .int .u8 108, .int .u8 108, .int .u8 119, .int .u8 97, .int .u8 108] 5 (8, 9)) := ⟨_, rfl⟩
    have hbq : Below w.heap.size w wq := by rw [hwq]; exact (Below.refl _ _).alloc (Nat.le_refl _) _
    have hsq : wq.heap.size = w.heap.size + 1 := by rw [hwq]; simp
    have hcq : ∀ wx, Below wq.heap.size wq wx → ∀ i u, (B8 magic)[i]? = some u → wx.cell? ((⟨w.heap.size, 0, none⟩ : Addr).add i) = some u := by
      intro wx hx i u hu
      rw [add_lit0, Nat.zero_add, hx.cell (p := ⟨w.heap.size, i, none⟩) (by simp only; omega), hwq]
      have e : B8 magic = [.int .u8 115, .int .u8 116, .int .u8 105, .int .u8 108, .int .u8 108, .int .u8 119, .int .u8 97, .int .u8 108] := by rfl
      rw [e] at hu
      have hh : (w.alloc (.cells #[.int .u8 115, .int .u8 116, .int .u8 105, .int .u8 108, .int .u8 108, .int .u8 119, .int .u8 97, .int .u8 108] 5 (8, 9))).heap[w.heap.size]? = some (.cells #[.int .u8 115, .int .u8 116, .int .u8 105, .int .u8 108, .int .u8 108, .int .u8 119, .int .u8 97, .int .u8 108] 5 (8, 9)) := heap_alloc_new w _
      rw [cell_of_row _ _ _ _ _ _ hh]
      simpa using hu
    have HBQ := Lib.hid hbq
    have HSQ := Lib.hid hsq
    have HCQ := Lib.hid hcq
    have HBY := Lib.hid (rbytes_ok wq m (by omega))
    obtain ⟨y0, y1, y3, yl⟩ := HCC.out wq (Mod.of_below hbq)
    rw [hwq] at HBY y3 yl
    have HWQ := Lib.hid hwq
    clear hbq hsq hcq hwq y0 y1
    go_wp2_with fail
    refine HBY.out.mono ?_
    rintro e w2 ⟨A2, rfl, o2, f2, b2⟩
    rw [← HWQ.out] at b2 f2
    obtain ⟨g2, cap2, hv2, _, hg2l⟩ := o2.form (by omega)
    simp only [Value.slice.injEq] at hv2
    obtain ⟨rfl, hx, hy⟩ := hv2
    clear hx hy kc
    obtain ⟨i5, hi5, hz5, hs5, hby5⟩ := info_parts info5
    have hap := run_append_grow (P := Try.prog) w2 22 22 5 i5 _ Try.underlying22 hi5 hz5 ⟨w.heap.size, 0, none⟩ 8 8 (B8 magic) (by rw [hs5]; rfl) (HCQ.out w2 b2) ⟨g2, 0, none⟩ 8 8 (B8 (bytesOf m)) (by rw [hs5, B8_length, bytesOf_length]) (o2.cells rfl) (by omega) (by omega) (growslice_fits (by omega) (by rw [hby5]; omega))
    obtain ⟨cap3, hcap3⟩ : ∃ cap3, cap3 = grownCap w2 (8 + 8) 8 5 := ⟨_, rfl⟩
    rw [← hcap3] at hap
    have hge : 8 + 8 ≤ cap3 := by rw [hcap3]; exact grownCap_ge w2 (8 + 8) 8 5
    have hle : cap3 ≤ maxLen := by rw [hcap3]; exact grownCap_le_maxLen w2 (8 + 8) 8 5 (by simp [maxLen])
    obtain ⟨w3, hw3⟩ : ∃ w3, w3 = w2.drew.alloc (.cells ((B8 magic).toArray ++ (B8 (bytesOf m)).toArray ++ Builtin.zeroCells (Value.int .u8 0).cells (cap3 - (8 + 8))) 5) := ⟨_, rfl⟩
    have hap : (Builtin.append_ #[22, 22] 22 #[.slice (some ⟨w.heap.size, 0, none⟩) 8 8, .slice (some ⟨g2, 0, none⟩) 8 8]).run Try.prog w2 = .ok (.slice (some ⟨w2.heap.size, 0, none⟩) 16 cap3) w3 := by rw [hw3]; exact hap
    have hoh : w3.ownsRow 0 5 1 (.slice (some ⟨w2.heap.size, 0, none⟩) 16 cap3) 16 (B8 (magic ++ bytesOf m)) := by
      refine ⟨by rw [B8_length, List.length_append, bytesOf_length]; rfl, .inr ⟨w2.heap.size, cap3, _, rfl, Nat.zero_le _, by rw [hw3]; exact heap_alloc_new w2.drew _, hge, hle, ?_, ?_⟩⟩
      · simp only [Array.size_append, List.size_toArray, size_zeroCells, B8_length, bytesOf_length, Value.cells, List.length_cons, List.length_nil]
        have : magic.length = 8 := rfl
        omega
      · simp only [Array.toList_append, Nat.mul_one, B8_append]
        rw [List.take_left' (by rw [List.length_append, B8_length, B8_length, bytesOf_length]; rfl)]
    have hb03 : Below w.heap.size w w3 := by
      have h1 : Below w.heap.size w w2 := below_step' HBQ.out b2
      have h2 : Below w2.heap.size w2 w3 := by rw [hw3]; exact (Below.refl _ _).drew.alloc (Nat.le_refl _) _
      exact below_step' h1 h2
    have hsz2 : w.heap.size ≤ w2.heap.size := by have := b2.size; have := HSQ.out; omega
    have HST : Hid (w3.ownsRow 0 5 1 (.slice (some ⟨w2.heap.size, 0, none⟩) (16 + 8 * 0) cap3) (16 + 8 * 0) (B8 (hdrAt m ((Q.l.map (·.1)).take 0))) ∧ Below w.heap.size w w3) := Lib.hid ⟨by
      have e : hdrAt m ((Q.l.map (·.1)).take 0) = magic ++ bytesOf m := by simp [hdrAt]
      rw [e]; exact hoh, hb03⟩
    have HSZ2 := Lib.hid hsz2
    clear o2 f2 b2 hi5 hz5 hs5 hby5 hcap3 hge hle hw3 hoh hb03 HBY
    go_wp2_with (at_builtin; refine wpList_app_run _ rfl (.tmp 27) (.tmp 28) 22 22 rfl _ _ rfl rfl _ _ hap ?_)
    clear hap
    go_loopg [2, 3, 6] m (fun kq lv hv iv wr => ∃ (i : Nat) (F2 : Nat → Prop) (Ah : Option Addr) (ch : Nat) (Al : Option Addr) (cl : Nat), iv = .int .i64 i ∧ i ≤ m ∧ kq = m - i ∧ lv = .slice Al i cl ∧ hv = .slice Ah (16 + 8 * i) ch ∧ Hid (RefAt wr F2 r (rcmI R a Q.l i)) ∧ Hid (∀ b, F2 b → G b ∨ w.heap.size ≤ b) ∧ Hid (Mod G w wr) ∧
      Hid (wr.ownsRow 0 5 1 (.slice Ah (16 + 8 * i) ch) (16 + 8 * i) (B8 (hdrAt m ((Q.l.map (·.1)).take i)))) ∧ Hid (∀ b, (Value.slice Ah (16 + 8 * i) ch).ownBlock = some b → w.heap.size ≤ b ∧ ¬ F2 b) ∧ Hid (wr.ownsRow 0 3 1 (.slice Al i cl) i (Ints ((Q.l.map (·.1)).take i))) ∧ Hid (∀ b, (Value.slice Al i cl).ownBlock = some b → w.heap.size ≤ b ∧ ¬ F2 b))
    case atStart =>
      obtain ⟨s1, s2⟩ := HST.out
      exact ⟨0, G, some ⟨w2.heap.size, 0, none⟩, cap3, none, 0, rfl, by omega, rfl, rfl, rfl, Lib.hid (HR.out.below s2), Lib.hid (fun b hb => .inl hb), Lib.hid (Mod.of_below s2), Lib.hid s1,
        Lib.hid (fun b hb => by
          simp only [Value.ownBlock, Option.some.injEq] at hb
          have h1 := HSZ2.out
          exact ⟨by omega, fun e => by have := HR.out.lt e; omega⟩), Lib.hid ⟨by simp [Ints], .inl ⟨rfl, rfl⟩⟩, Lib.hid (fun b hb => by simp [Value.ownBlock] at hb)⟩
    case round =>
      clear HST
      obtain ⟨i, F2, Ah, ch, Al, cl, rfl, hi, rfl, rfl, rfl, hr, hF2, hm, hh, hfh, hl, hfl⟩ := hrel
      obtain ⟨x0, x1, x3, xl⟩ := HCC.out wr hm.out
      obtain ⟨g1, g2', g3⟩ := HG.out i hi
      have HG1 := Lib.hid g1
      have HFL := Lib.hid g2'
      have HEV : Hid ((rcmI R a Q.l i).ev.length ≤ 1001000) := Lib.hid (by omega)
      clear g1 g2' g3
      by_cases hlt : i < m
      · obtain ⟨x, hx⟩ : ∃ x, Q.l[i]? = some x := ⟨_, List.getElem?_eq_getElem (by have := HME.out; omega)⟩
        obtain ⟨z, bs⟩ := x
        obtain ⟨g, cap, hv, _, hgl⟩ := (HOW.out w (Mod.refl _ _)).form (by omega)
        simp only [Value.slice.injEq] at hv
        obtain ⟨rfl, _, rfl⟩ := hv
        obtain ⟨v0, v1⟩ := EV_get hx
        have HCG : Hid (∀ wx, Mod G w wx → wx.cell? ⟨g, i * 2, none⟩ = some (.int .i64 z) ∧ wx.cell? ⟨g, i * 2 + 1, none⟩ = some (.string ⟨bs.toArray⟩) ∧ g < wx.heap.size) := Lib.hid fun wx hm => by
          have h0 := (HOW.out wx hm).cells rfl _ _ v0
          have h1 := (HOW.out wx hm).cells rfl _ _ v1
          rw [add_lit0, Nat.zero_add] at h0 h1
          exact ⟨h0, h1, by have := hm.size; omega⟩
        have HBS : Hid (bs.length = 256) := Lib.hid (HBB.out i _ hx)
        obtain ⟨hz0, hzk⟩ := HKK.out _ (List.mem_of_getElem? hx)
        obtain ⟨nn, rfl⟩ : ∃ nn : Nat, z = (nn : Int) := ⟨z.toNat, by simp only at hz0; omega⟩
        have hnk : nn < k := by simp only at hzk; omega
        obtain ⟨p, hp⟩ : ∃ p, p = a + 1 + i := ⟨_, rfl⟩
        have ew1 : IntKind.i64.wrap ((a : Int) + 1) = (a : Int) + 1 := by rw [IntKind.wrap_i64]; omega
        have ew2 : IntKind.i64.wrap ((a : Int) + 1 + (i : Int)) = (p : Int) := by rw [IntKind.wrap_i64]; omega
        have ewn : IntKind.u64.wrap (nn : Int) = (nn : Int) := by rw [IntKind.wrap_u64]; omega
        have hpk : p < k := by omega
        have HTK : Hid ((Q.l.map (·.1)).take (i + 1) = (Q.l.map (·.1)).take i ++ [(nn : Int)]) := Lib.hid (by rw [List.take_add_one, List.getElem?_map, hx]; rfl)
        have hstep : Hid (rcmI R a Q.l (i + 1) = rwr (rcmI R a Q.l i) p bs) := Lib.hid (by rw [rcmI_succ hx, hp])
        obtain ⟨wd, hwd⟩ : ∃ wd, wd = wr.drew := ⟨_, rfl⟩
        have HWD : Hid (Mod G w wd ∧ Below wr.heap.size wr wd) := Lib.hid (by rw [hwd]; exact ⟨hm.out.drew, (Below.refl _ _).drew⟩)
        have HRD2 := Lib.hid (hr.out.below HWD.out.2)
        have HCD : Hid (wd.cell? ⟨q, 0, none⟩ = some (.pointer (some ⟨r, 0, none⟩)) ∧ wd.cell? ⟨q, 1, none⟩ = some (.int .i64 (a : Int)) ∧ wd.cell? ⟨q, 3, none⟩ = some (.slice (some ⟨g, 0, none⟩) m cq) ∧ wd.cell? ⟨g, i * 2 + 1, none⟩ = some (.string ⟨bs.toArray⟩) ∧ q < wd.heap.size ∧ g < wd.heap.size) :=
          Lib.hid ⟨(HCC.out wd HWD.out.1).1, (HCC.out wd HWD.out.1).2.1, (HCC.out wd HWD.out.1).2.2.1, (HCG.out wd HWD.out.1).2.1, (HCC.out wd HWD.out.1).2.2.2, (HCG.out wd HWD.out.1).2.2⟩
        clear v0 v1 hx hz0 hzk hp x0 x1
        go_upto_region 8 with fail
        try simp only [Act.put, List.setIfInBounds_toArray, List.set_cons_zero, List.set_cons_succ]
        obtain ⟨Inv, hInv⟩ : ∃ Inv : Done → World → Prop, Inv = Chain2 19 20 (fun wI => wI = wd) (fun x wI => ∃ c, x = .slice (some ⟨wd.heap.size, 0, none⟩) 256 c ∧ Sl wI (fun z => z = wd.heap.size) 1 x 256 (B8 bs) ∧ Below wd.heap.size wd wI) (fun x y wI => RefAt wI (fun b => F2 b ∨ (wd.heap.size ≤ b ∧ b < wI.heap.size)) r (rwr (rcmI R a Q.l i) p bs) ∧ Mod F2 wd wI) := ⟨_, rfl⟩
        have HI := Lib.hid hInv
        have hcz : Hid (∀ τ wI, Inv τ wI → τ 20 = none → wI.cell? ⟨q, 0, none⟩ = some (.pointer (some ⟨r, 0, none⟩)) ∧ wI.cell? ⟨q, 1, none⟩ = some (.int .i64 (a : Int)) ∧ wI.cell? ⟨q, 3, none⟩ = some (.slice (some ⟨g, 0, none⟩) m cq) ∧ wI.cell? ⟨g, i * 2 + 1, none⟩ = some (.string ⟨bs.toArray⟩) ∧ q < wI.heap.size ∧ g < wI.heap.size) := by
          intro τ wI h h9
          rw [hInv] at h
          rcases h.upto1 h9 with rfl | ⟨x, _, _, _, hb⟩
          · exact HCD.out
          · obtain ⟨d0, d1, d2, d3, d4, d5⟩ := HCD.out
            have := hb.size
            exact ⟨(hb.cell (p := ⟨q, 0, none⟩) d4).trans d0, (hb.cell (p := ⟨q, 1, none⟩) d4).trans d1, (hb.cell (p := ⟨q, 3, none⟩) d4).trans d2, (hb.cell (p := ⟨g, _, none⟩) d5).trans d3, by omega, by omega⟩
        have H00 : Hid (Inv Done.none wr.drew) := by rw [hInv]; exact Chain2.start hwd.symm
        clear hInv hwd
        refine wp_region_inv (by kernel_rfl) [⟨0, false, [], [20]⟩, ⟨1, false, [], [20]⟩, ⟨2, false, [], [20]⟩, ⟨3, false, [], [20]⟩, ⟨4, false, [], [20]⟩, ⟨5, false, [], [20]⟩, ⟨6, false, [], [20]⟩, ⟨7, false, [], [20]⟩, ⟨8, false, [], [20]⟩, ⟨9, false, [], [20]⟩, ⟨10, false, [], [20]⟩, ⟨11, false, [], [19, 20]⟩, ⟨12, false, [], [19, 20]⟩, ⟨13, false, [], [19, 20]⟩, ⟨14, false, [], [19, 20]⟩, ⟨15, false, [], [19, 20]⟩, ⟨16, false, [], [19, 20]⟩, ⟨17, false, [], [19, 20]⟩, ⟨18, false, [], [19, 20]⟩, ⟨19, true, [], [20]⟩, ⟨20, true, [19], []⟩] (by kernel_rfl) Inv (fun _ _ => True) (fun _ => ⟨undef, trivial⟩) H00.out ?_
        iterate 19 (apply WpI.pure; (simp only [List.getElem?_toArray, List.getElem?_cons_succ, List.getElem?_cons_zero]; rfl); (intro τ wI hA hI; obtain ⟨f0, f1, f2, f3, f4, f5⟩ := hcz.out τ wI hI (hA.2 20 (by decide)); go_simp; exact ⟨hI, Is.rfl'⟩); simp only [Act.put, List.setIfInBounds_toArray, List.set_cons_zero, List.set_cons_succ])
        apply WpI.effect; (simp only [List.getElem?_toArray, List.getElem?_cons_succ, List.getElem?_cons_zero]; rfl)
        · intro τ wI hA hn hI
          have h0 := hI
          rw [HI.out] at h0
          have h20 : τ 20 = none := hA.2 20 (by decide)
          have hK := h0.at0 hn h20
          have HT := Lib.hid (And.intro True.intro (And.intro h20 (True.intro)))
          clear hA hn hI h0 h20
          subst hK
          obtain ⟨cc, w1, hcv, hsl, hb⟩ := conv_bytes wI bs
          rw [HBS.out] at hcv hsl
          unfold bstr at hcv
          have HW1 := Lib.hid (And.intro hsl hb)
          clear hsl hb
          go_simp
          rw [HI.out]
          exact Chain2.put1 HT.out.2.1 (by decide) ⟨cc, rfl, HW1.out.1, HW1.out.2⟩
        intro v19 hv19
        simp only [Act.put, List.setIfInBounds_toArray, List.set_cons_zero, List.set_cons_succ]
        clear hv19
        apply WpI.effect; (simp only [List.getElem?_toArray, List.getElem?_cons_succ, List.getElem?_cons_zero]; rfl)
        · intro τ wI hA hn hI
          have h0 := hI
          rw [HI.out] at h0
          have h19 : τ 19 = some v19 := hA.1 19 (by decide)
          have hK := h0.at1 h19 hn
          have HT := Lib.hid (And.intro True.intro (And.intro h19 (True.intro)))
          clear hA hn hI h0 h19
          obtain ⟨cc, rfl, hsl, hb⟩ := hK
          have HW1 := Lib.hid (And.intro hsl hb)
          clear hsl hb
          go_simp
          refine (rwrite_ok wI F2 _ r p (rcmI R a Q.l i) _ cc bs (HRD2.out.below HW1.out.2) (by have := HEV.out; omega) (by rw [HFL.out]; exact hpk) HW1.out.1).mono ?_
          rintro e w' ⟨rfl, k1, k2⟩
          refine ⟨_, rfl, ?_⟩
          rw [HI.out]
          have hsz := HW1.out.2.size
          have hlt := fun b => k1.lt (b := b)
          exact Chain2.put2 HT.out.2.1 (by decide) ⟨k1.mono (fun b hb => hb.elim .inl (fun hb => .inr ⟨by omega, hb.2⟩)) (fun b hb => hb.elim (fun hb => hlt b (.inl hb)) (fun hb => hb.2)), (Mod.of_below HW1.out.2).trans k2 (fun _ _ h => h)⟩
        intro v20 hv20
        simp only [Act.put, List.setIfInBounds_toArray, List.set_cons_zero, List.set_cons_succ]
        clear hv20
        refine WpI.done ?_
        intro w4 hI
        rw [HI.out] at hI
        have hE := hI.end_ (by decide)
        obtain ⟨k1, k2⟩ := hE
        have hmr := hm.out.size
        have hszd := HWD.out.1.size
        have hm4 : Mod G w w4 := HWD.out.1.trans (k2.mono (fun b _ hb => hb)) (fun b hb h => (hF2.out b h).elim id (fun h => by omega))
        have hh4 := own_mod (own_below hh.out HWD.out.2) k2 (fun b hb => (hfh.out b hb).2)
        have hl4 := own_mod (own_below hl.out HWD.out.2) k2 (fun b hb => (hfl.out b hb).2)
        have hwdr := HWD.out.2.size
        obtain ⟨F4, hF4, hd4, hn4⟩ : ∃ F4 : Nat → Prop, (∀ b, F4 b → G b ∨ w.heap.size ≤ b) ∧ RefAt w4 F4 r (rwr (rcmI R a Q.l i) p bs) ∧ (∀ b, b < wd.heap.size → ¬ F2 b → ¬ F4 b) := ⟨_, fun b hb => hb.elim (fun hb => hF2.out b hb) (fun hb => .inr (by omega)), k1, fun b hb hn h => h.elim hn (fun h => by omega)⟩
        have hfh4 : ∀ b, (Value.slice Ah (16 + 8 * i) ch).ownBlock = some b → w.heap.size ≤ b ∧ ¬ F4 b := fun b hb => ⟨(hfh.out b hb).1, hn4 b (by have := own_lt' hh.out hb; omega) (hfh.out b hb).2⟩
        have hfl4 : ∀ b, (Value.slice Al i cl).ownBlock = some b → w.heap.size ≤ b ∧ ¬ F4 b := fun b hb => ⟨(hfl.out b hb).1, hn4 b (by have := own_lt' hl.out hb; omega) (hfl.out b hb).2⟩
        obtain ⟨A5, c5, w5, hap, o5, gr5, a5, _⟩ := run_app (P := Try.prog) (w4.alloc (.cells #[.int .i64 (nn : Int)] 3)) 53 53 3 (.int .i64 0) 1 8 Try.underlying53 info3 rfl (by omega) (by omega) (.slice Al i cl) i (Ints ((Q.l.map (·.1)).take i)) (hl4.alloc _) (fun b => b = w4.heap.size) (.slice (some ⟨w4.heap.size, 0, none⟩) 1 1) 1 [.int .i64 (nn : Int)] (Sl.one w4 3 _) (by simp [Value.oneCell']) (by omega)
        have hm45 : Mod (fun b => (Value.slice Al i cl).ownBlock = some b) w4 w5 := ((Mod.refl _ _).alloc _).grown gr5 (fun k hk _ => hk)
        have hm5 : Mod G w w5 := hm4.trans (hm45.mono (fun b _ hb => hb)) (fun b hb h => by have := (hfl4 b h).1; omega)
        have hd5 := hd4.mod hm45 (fun b hb e => (hfl4 b e).2 hb)
        have hh5 := own_mod hh4 hm45 (fun b hb e => own_ne hh4 hl4 (by decide) b hb e)
        have hfl5 : ∀ b, (Value.slice A5 (i + 1) c5).ownBlock = some b → w.heap.size ≤ b ∧ ¬ F4 b := fun b hb => by
          rcases a5 with e | e
          · rw [e] at hb; exact hfl4 b hb
          · rw [e] at hb; injection hb with hb
            have := hm4.size
            simp at hb
            exact ⟨by omega, fun e => by have := hd4.lt e; omega⟩
        have HBY := Lib.hid (rbytes_ok w5 nn (by omega))
        obtain ⟨z0, z1, z3, zl⟩ := HCC.out w4 hm4
        obtain ⟨u0, u1, ul⟩ := HCG.out w4 hm4
        obtain ⟨z0', z1', z3', zl'⟩ := HCC.out w5 hm5
        obtain ⟨u0', u1', ul'⟩ := HCG.out w5 hm5
        have H5 := Lib.hid (And.intro o5 (And.intro hm5 (And.intro hd5 (And.intro hh5 (And.intro hfl5 (And.intro hfh4 (And.intro hF4 (show Below 0 w5 w5 from Below.refl _ _))))))))
        clear k1 k2 hI hcz H00 HI hm4 hh4 hl4 hd4 hn4 hfh4 hfl4 o5 gr5 a5 hm45 hm5 hd5 hh5 hfl5 hF4 z0 z1 u1 z0' z1' u1' hr hF2 hh hfh hl hfl hm HCD HRD2
        go_wp2_with (at_builtin; refine wpList_app_run _ rfl (.tmp 60) (.tmp 69) 53 53 rfl _ _ rfl rfl _ _ hap ?_)
        clear hap
        refine HBY.out.mono ?_
        rintro e w6 ⟨A6, rfl, o6, f6, b6⟩
        obtain ⟨o5, hm5, hd5, hh5, hfl5, hfh5, hF5, _⟩ := H5.out
        have hh6 := own_below hh5 b6
        obtain ⟨A7, c7, w7, hap, o7, gr7, a7, _⟩ := run_app (P := Try.prog) w6 22 22 5 (.int .u8 0) 1 1 Try.underlying22 info5 rfl (by omega) (by omega) (.slice Ah (16 + 8 * i) ch) (16 + 8 * i) (B8 (hdrAt m ((Q.l.map (·.1)).take i))) hh6 _ (.slice A6 8 8) 8 (B8 (bytesOf nn)) (Sl.of_own o6) (B8_one _) (by omega)
        have hm67 : Mod (fun b => (Value.slice Ah (16 + 8 * i) ch).ownBlock = some b) w6 w7 := (Mod.refl _ _).grown gr7 (fun k hk _ => hk)
        have hm6 : Mod G w w6 := hm5.trans (Mod.of_below (F := G) b6) (fun _ _ h => h)
        have hm7 : Mod G w w7 := hm6.trans (hm67.mono (fun b _ hb => hb)) (fun b hb h => by have := (hfh5 b h).1; omega)
        have hd7 := (hd5.below b6).mod hm67 (fun b hb e => (hfh5 b e).2 hb)
        have hl6 := own_below o5 b6
        have hl7 := own_mod hl6 hm67 (fun b hb e => own_ne hl6 hh6 (by decide) b hb e)
        have hfh7 : ∀ b, (Value.slice A7 (16 + 8 * i + 8) c7).ownBlock = some b → w.heap.size ≤ b ∧ ¬ F4 b := fun b hb => by
          rcases a7 with e | e
          · rw [e] at hb; exact hfh5 b hb
          · rw [e] at hb; injection hb with hb
            have := hm6.size
            exact ⟨by omega, fun e => by have := (hd5.below b6).lt e; omega⟩
        have H7 := Lib.hid (And.intro o7 (And.intro hm7 (And.intro hd7 (And.intro hl7 (And.intro hfl5 (And.intro hfh7 hF5))))))
        clear o5 hm5 hd5 hh5 hfl5 hfh5 hF5 hh6 o7 gr7 a7 hm67 hm6 hm7 hd7 hl6 hl7 hfh7 o6 f6 b6 H5 HBY
        go_wp2_with (at_builtin; refine wpList_app_run _ rfl (.tmp 84) (.tmp 85) 22 22 rfl _ _ rfl rfl _ _ hap ?_)
        clear hap
        go_roundg (m - (i + 1))
        case measure => omega
        case rel =>
          obtain ⟨o7, hm7, hd7, hl7, hfl7, hfh7, hF7⟩ := H7.out
          refine ⟨i + 1, F4, A7, c7, A5, c5, by go_num, by omega, rfl, rfl, rfl, by rw [hstep.out]; exact Lib.hid hd7, Lib.hid hF7, Lib.hid hm7, ?_, ?_, ?_, Lib.hid hfl7⟩
          · rw [HTK.out, hdrAt_snoc, B8_append]
            exact Lib.hid o7
          · exact Lib.hid hfh7
          · rw [HTK.out]
            have e : Ints ((Q.l.map (·.1)).take i ++ [(nn : Int)]) = Ints ((Q.l.map (·.1)).take i) ++ [.int .i64 (nn : Int)] := by simp [Ints]
            rw [e]
            exact Lib.hid hl7
      · obtain rfl : i = m := by omega
        have hkl : (Q.l.map (·.1)).take i = Q.l.map (·.1) := List.take_of_length_le (by rw [List.length_map]; have := HME.out; omega)
        rw [hkl] at hh hl
        obtain ⟨keys, hks⟩ : ∃ keys, keys = Q.l.map (·.1) := ⟨_, rfl⟩
        have hkeyl : keys.length = i := by rw [hks, List.length_map]; exact HME.out.symm
        rw [← hks] at hh hl
        have HKS := Lib.hid hks
        have HKL := Lib.hid hkeyl
        clear hkl hks hkeyl
        go_wp2_with fail
        refine (rflush_ok wr F2 r _ hr.out (by have := HEV.out; omega)).mono ?_
        rintro e w3 ⟨rfl, hd3, hm3⟩
        have hsz := hm.out.size
        have hm03 : Mod G w w3 := hm.out.trans (hm3.mono (fun b _ hb => hb)) (fun b hb h => (hF2.out b h).elim id (fun h => by omega))
        have hh3 := own_mod hh.out hm3 (fun b hb => (hfh.out b hb).2)
        have hl3 := own_mod hl.out hm3 (fun b hb => (hfl.out b hb).2)
        obtain ⟨F3, hF3, hd3, hn3⟩ : ∃ F3 : Nat → Prop, (∀ b, F3 b → G b ∨ w.heap.size ≤ b) ∧ RefAt w3 F3 r (rfl_ (rcmI R a Q.l i)) ∧ (∀ b, b < wr.heap.size → ¬ F2 b → ¬ F3 b) := ⟨_, fun b hb => hb.elim (fun hb => hF2.out b hb) (fun hb => .inr (by omega)), hd3, fun b hb hn h => h.elim hn (fun h => by omega)⟩
        have hfh3 : ∀ b, (Value.slice Ah (16 + 8 * i) ch).ownBlock = some b → w.heap.size ≤ b ∧ ¬ F3 b := fun b hb => ⟨(hfh.out b hb).1, hn3 b (own_lt' hh.out hb) (hfh.out b hb).2⟩
        have hfl3 : ∀ b, (Value.slice Al i cl).ownBlock = some b → w.heap.size ≤ b ∧ ¬ F3 b := fun b hb => ⟨(hfl.out b hb).1, hn3 b (own_lt' hl.out hb) (hfl.out b hb).2⟩
        obtain ⟨R3, hR3⟩ : ∃ R3, R3 = rfl_ (rcmI R a Q.l i) := ⟨_, rfl⟩
        have HEV3 : Hid (R3.ev.length ≤ 1001001) := Lib.hid (by have := HEV.out; rw [hR3]; simp only [rfl_, List.length_append, List.length_singleton]; omega)
        have HFL3 : Hid (R3.first.length = k) := Lib.hid (by rw [hR3]; exact HFL.out)
        have HRG3 : Hid (∃ S3, RG S3 R3 k) := Lib.hid ⟨_, by rw [hR3]; exact HG1.out.flush⟩
        rw [← hR3] at hd3
        have HR3 := Lib.hid hR3
        have HF3 := Lib.hid hF3
        have HFIN := Lib.hid (HFin.out hm0)
        have HST3 : Hid (RefAt w3 F3 r R3 ∧ Mod G w w3 ∧ w3.ownsRow 0 5 1 (.slice Ah (16 + 8 * i) ch) (16 + 8 * i) (B8 (hdrAt i keys ++ List.replicate 0 0)) ∧ (∀ b, (Value.slice Ah (16 + 8 * i) ch).ownBlock = some b → w.heap.size ≤ b ∧ ¬ F3 b) ∧ w3.ownsRow 0 3 1 (.slice Al i cl) i (Ints keys) ∧ ∀ b, (Value.slice Al i cl).ownBlock = some b → w.heap.size ≤ b ∧ ¬ F3 b) :=
          Lib.hid ⟨hd3, hm03, by rw [List.replicate_zero, List.append_nil]; exact hh3, hfh3, hl3, hfl3⟩
        have hak : a < k := by omega
        clear hm3 hsz hm03 hh3 hl3 hd3 hn3 hfh3 hfl3 hR3 hr hF2 hm hh hfh hl hfl x0 x1 x3 xl hF3
        go_wp2_with fail
        go_loopg [3] (256 - (16 + 8 * i)) (fun kq hv wr => ∃ (n : Nat) (Ah : Option Addr) (ch : Nat), hv = .slice Ah n ch ∧ 16 + 8 * i ≤ n ∧ n ≤ 256 ∧ kq = 256 - n ∧ Hid (RefAt wr F3 r R3 ∧ Mod G w wr ∧ wr.ownsRow 0 5 1 (.slice Ah n ch) n (B8 (hdrAt i keys ++ List.replicate (n - (16 + 8 * i)) 0)) ∧ (∀ b, (Value.slice Ah n ch).ownBlock = some b → w.heap.size ≤ b ∧ ¬ F3 b) ∧ wr.ownsRow 0 3 1 (.slice Al i cl) i (Ints keys) ∧ ∀ b, (Value.slice Al i cl).ownBlock = some b → w.heap.size ≤ b ∧ ¬ F3 b))
        case atStart => exact ⟨16 + 8 * i, Ah, ch, rfl, Nat.le_refl _, by omega, by omega, by rw [Nat.sub_self]; exact HST3⟩
        case round =>
          clear HST3
          obtain ⟨n, Ah, ch, rfl, hn16, hn, rfl, hst⟩ := hrel
          by_cases hlt : n < 256
          · obtain ⟨hr, hm, hh, hfh, hl, hfl⟩ := hst.out
            obtain ⟨A7, c7, w7, hap, o7, gr7, a7, _⟩ := run_app (P := Try.prog) (wr.alloc (.cells #[.int .u8 0] 5)) 22 22 5 (.int .u8 0) 1 1 Try.underlying22 info5 rfl (by omega) (by omega) (.slice Ah n ch) n _ (hh.alloc _) (fun b => b = wr.heap.size) (.slice (some ⟨wr.heap.size, 0, none⟩) 1 1) 1 [.int .u8 0] (Sl.one wr 5 _) (by simp [Value.oneCell']) (by omega)
            have hm67 : Mod (fun b => (Value.slice Ah n ch).ownBlock = some b) wr w7 := ((Mod.refl _ _).alloc _).grown gr7 (fun k hk _ => hk)
            have H7 := Lib.hid (And.intro o7 (And.intro hm67 a7))
            clear o7 gr7 a7 hm67 hr hm hh hfh hl hfl
            go_wp2_with (at_builtin; refine wpList_app_run _ rfl (.tmp 95) (.tmp 96) 22 22 rfl _ _ rfl rfl _ _ hap ?_)
            clear hap
            go_roundg (256 - (n + 1))
            case measure => omega
            case rel =>
              obtain ⟨o7, hm67, a7⟩ := H7.out
              obtain ⟨hr, hm, hh, hfh, hl, hfl⟩ := hst.out
              refine ⟨n + 1, A7, c7, rfl, by omega, hlt, rfl, Lib.hid ⟨hr.mod hm67 (fun b hb e => (hfh b e).2 hb), hm.trans (hm67.mono (fun b _ hb => hb)) (fun b hb h => by have := (hfh b h).1; omega), ?_, fun b hb => ?_, own_mod hl hm67 (fun b hb e => own_ne hl hh (by decide) b hb e), hfl⟩⟩
              · rw [show n + 1 - (16 + 8 * i) = n - (16 + 8 * i) + 1 by omega, List.replicate_succ', ← List.append_assoc, B8_append]
                exact o7
              · rcases a7 with e | e
                · rw [e] at hb; exact hfh b hb
                · rw [e] at hb; injection hb with hb
                  simp at hb
                  have := hm.size
                  exact ⟨by omega, fun e => by have := hr.lt e; omega⟩
          · obtain rfl : n = 256 := by omega
            obtain ⟨hr, hm, hh, hfh, hl, hfl⟩ := hst.out
            have HHD : Hid (wr.ownsRow 0 5 1 (.slice Ah 256 ch) 256 (B8 (header keys))) := Lib.hid (by
              have e : hdrAt i keys ++ List.replicate (256 - (16 + 8 * i)) 0 = header keys := by unfold header; rw [HKL.out]
              rw [← e]; exact hh)
            obtain ⟨wd, hwd⟩ : ∃ wd, wd = wr.drew := ⟨_, rfl⟩
            have HWD : Hid (Mod G w wd ∧ Below wr.heap.size wr wd) := Lib.hid (by rw [hwd]; exact ⟨hm.drew, (Below.refl _ _).drew⟩)
            have HRD3 := Lib.hid (hr.below HWD.out.2)
            have HCD : Hid (wd.cell? ⟨q, 0, none⟩ = some (.pointer (some ⟨r, 0, none⟩)) ∧ wd.cell? ⟨q, 1, none⟩ = some (.int .i64 (a : Int)) ∧ q < wd.heap.size) := Lib.hid ⟨(HCC.out wd HWD.out.1).1, (HCC.out wd HWD.out.1).2.1, (HCC.out wd HWD.out.1).2.2.2⟩
            have HHD := Lib.hid (own_below HHD.out HWD.out.2)
            have HLL := Lib.hid (And.intro (own_below hl HWD.out.2) hfl)
            have HFH := Lib.hid hfh
            rw [HKS.out] at HHD
            obtain ⟨hdr, hhdr⟩ : ∃ hdr, hdr = header (Q.l.map (·.1)) := ⟨_, rfl⟩
            have HHL : Hid (hdr.length = 256) := Lib.hid (by rw [hhdr]; exact header_length (by rw [List.length_map, ← HME.out]; omega))
            rw [← hhdr] at HHD HFIN
            clear hr hm hh hfh hl hfl hst hhdr
            go_upto_region 15 with fail
            try simp only [Act.put, List.setIfInBounds_toArray, List.set_cons_zero, List.set_cons_succ]
            obtain ⟨Inv, hInv⟩ : ∃ Inv : Done → World → Prop, Inv = Chain1 9 (fun wI => wI = wd) (fun x wI => RefAt wI (fun b => F3 b ∨ (wd.heap.size ≤ b ∧ b < wI.heap.size)) r (rwr R3 a hdr) ∧ Mod F3 wd wI) := ⟨_, rfl⟩
            have HI := Lib.hid hInv
            have hcz : Hid (∀ τ wI, Inv τ wI → τ 9 = none → wI = wd) := by
              intro τ wI h h9
              rw [hInv] at h
              exact h.upto0 h9
            have H00 : Hid (Inv Done.none wr.drew) := by rw [hInv]; exact Chain1.start hwd.symm
            clear hInv hwd
            refine wp_region_inv (by kernel_rfl) [⟨0, false, [], [9]⟩, ⟨1, false, [], [9]⟩, ⟨2, false, [], [9]⟩, ⟨3, false, [], [9]⟩, ⟨4, false, [], [9]⟩, ⟨5, false, [], [9]⟩, ⟨6, false, [], [9]⟩, ⟨7, false, [], [9]⟩, ⟨8, false, [], [9]⟩, ⟨9, true, [], []⟩] (by kernel_rfl) Inv (fun _ _ => True) (fun _ => ⟨undef, trivial⟩) H00.out ?_
            iterate 9 (apply WpI.pure; (simp only [List.getElem?_toArray, List.getElem?_cons_succ, List.getElem?_cons_zero]; rfl); (intro τ wI hA hI; have f0 := hcz.out τ wI hI (hA.2 9 (by decide)); have e1 := f0; clear f0; subst e1; obtain ⟨x0, x1, xl⟩ := HCD.out; go_simp; exact ⟨hI, Is.rfl'⟩); simp only [Act.put, List.setIfInBounds_toArray, List.set_cons_zero, List.set_cons_succ])
            apply WpI.effect; (simp only [List.getElem?_toArray, List.getElem?_cons_succ, List.getElem?_cons_zero]; rfl)
            · intro τ wI hA hn hI
              have h0 := hI
              rw [HI.out] at h0
              have hK := h0.at0 hn
              have HT := Lib.hid (And.intro True.intro (True.intro))
              clear hA hn hI h0
              subst hK
              obtain ⟨x0, x1, xl⟩ := HCD.out
              go_simp
              refine (rwrite_ok wI F3 _ r a R3 Ah ch _ HRD3.out (by have := HEV3.out; omega) (by rw [HFL3.out]; exact hak) (Sl.of_own HHD.out)).mono ?_
              rintro e w' ⟨rfl, k1, k2⟩
              refine ⟨_, rfl, ?_⟩
              rw [HI.out]
              exact Chain1.put1  ⟨k1, k2⟩
            intro v9 hv9
            simp only [Act.put, List.setIfInBounds_toArray, List.set_cons_zero, List.set_cons_succ]
            clear hv9
            refine WpI.done ?_
            intro w5 hI
            rw [HI.out] at hI
            have hE := hI.end_
            obtain ⟨k1, k2⟩ := hE
            have hszd := HWD.out.1.size
            have hm5 : Mod G w w5 := HWD.out.1.trans (k2.mono (fun b _ hb => hb)) (fun b hb h => (HF3.out b h).elim id (fun h => by omega))
            obtain ⟨F5, hF5, hd5, hn5⟩ : ∃ F5 : Nat → Prop, (∀ b, F5 b → G b ∨ w.heap.size ≤ b) ∧ RefAt w5 F5 r (rwr R3 a hdr) ∧ (∀ b, b < wd.heap.size → ¬ F3 b → ¬ F5 b) := ⟨_, fun b hb => hb.elim (fun hb => HF3.out b hb) (fun hb => .inr (by omega)), k1, fun b hb hn h => h.elim hn (fun h => by omega)⟩
            have hl5 := own_mod HLL.out.1 k2 (fun b hb => (HLL.out.2 b hb).2)
            have hfl5 : ∀ b, (Value.slice Al i cl).ownBlock = some b → ¬ F5 b := fun b hb => hn5 b (own_lt' HLL.out.1 hb) (HLL.out.2 b hb).2
            obtain ⟨z0, z1, z3, zl⟩ := HCC.out w5 hm5
            have H5 := Lib.hid (And.intro hF5 (And.intro hd5 (And.intro hm5 (And.intro hl5 hfl5))))
            clear k1 k2 hI hcz H00 HI hszd hm5 hF5 hd5 hn5 hl5 hfl5 z1 z3 HCD HRD3
            go_wp2_with fail
            refine (rflush_ok w5 F5 r _ H5.out.2.1 (by have := HEV3.out; simp only [rwr, List.length_append, List.length_singleton]; omega)).mono ?_
            rintro e w6 ⟨rfl, hd6, hm6⟩
            obtain ⟨hF5, hd5, hm5, hl5, hfl5⟩ := H5.out
            have hsz5 := hm5.size
            have hm06 : Mod G w w6 := hm5.trans (hm6.mono (fun b _ hb => hb)) (fun b hb h => (hF5 b h).elim id (fun h => by omega))
            have hl6 := own_mod hl5 hm6 hfl5
            obtain ⟨F6, hF6, hd6, hn6⟩ : ∃ F6 : Nat → Prop, (∀ b, F6 b → G b ∨ w.heap.size ≤ b) ∧ RefAt w6 F6 r (rfl_ (rwr R3 a hdr)) ∧ (∀ b, b < w5.heap.size → ¬ F5 b → ¬ F6 b) := ⟨_, fun b hb => hb.elim (fun hb => hF5 b hb) (fun hb => .inr (by omega)), hd6, fun b hb hn h => h.elim hn (fun h => by omega)⟩
            have hfl6 : ∀ b, (Value.slice Al i cl).ownBlock = some b → ¬ F6 b := fun b hb => hn6 b (own_lt' hl5 hb) (hfl5 b hb)
            have hQ6 := HQ.out.mod hm06 (fun b hb e => HDIS.out b e hb)
            have hex := HRG3.out
            obtain ⟨S3, hS3⟩ := hex
            have HS3 := Lib.hid hS3
            clear hS3
            rw [HKS.out] at hl6
            have hdis6 : ∀ b, F6 b → ¬ F b := fun b hb hf => (hF6 b hb).elim (fun h => HDIS.out b h hf) (fun h => by have := HQ.out.lt hf; omega)
            have HDO := Lib.hid (rdo_ok w6 F _ F6 q r k Q _ _ Al i cl (Q.l.map (·.1)) hQ6 hd6 hdis6 ((HS3.out.write a hak _ HHL.out).flush) hk (Sl.of_own hl6) (fun b hb e => hfl6 b e.1 hb) (fun n hn => by obtain ⟨x, hx, rfl⟩ := List.mem_map.1 hn; exact HKK.out x hx) (by rw [← HAE.out]; omega) (by have := HEV3.out; simp only [rfl_, rwr, List.length_append, List.length_singleton]; omega))
            have H6 := Lib.hid (And.intro hF6 (And.intro hm06 hdis6))
            clear hF5 hd5 hm5 hl5 hfl5 hsz5 hm06 hl6 hd6 hn6 hfl6 hQ6 hdis6 hF6 hm6 z0 zl H5
            go_wp2_with fail
            refine HDO.out.mono ?_
            rintro e w7 ⟨rfl, hd7, hm7⟩
            have hsz6 := H6.out.2.1.size
            have hm07 : Mod G w w7 := H6.out.2.1.trans (hm7.mono (fun b _ hb => hb)) (fun b hb h => (H6.out.1 b h).elim id (fun h => by omega))
            obtain ⟨z0, z1, z3, zl⟩ := HCC.out w7 hm07
            have hQ7 := HQ.out.mod hm07 (fun b hb e => HDIS.out b e hb)
            have zf : w7.frozen? ⟨q, 3, none⟩ = false := by
              obtain ⟨A, c, h1, h2, _⟩ := hQ7
              exact h2.frozen 3
            have H7 := Lib.hid (And.intro hd7 (And.intro hm07 hQ7))
            clear hd7 hm7 hm07 hQ7 z0 z1
            go_wp2_with fail
            go_end0
            obtain ⟨hd7, hm07, hQ7⟩ := H7.out
            obtain ⟨k1, k2⟩ := hQ7.setL (L := []) (A' := none) (c' := 0) ⟨by simp [EV], .inl ⟨rfl, rfl⟩⟩
            refine ⟨rfl, ?_, ?_, (hm07.mono (fun b _ hb => .inl hb)).trans k2 (fun b hb h => .inr h)⟩
            · have hlt := fun b => k1.lt (b := b)
              exact k1.mono (fun b hb => hb.elim id (fun h => by simp [Value.ownBlock] at h)) (fun b hb => hlt b (.inl hb))
            · have hd8 := hd7.mod k2 (fun b hb hf => hb.elim (fun hb => H6.out.2.2 b hb hf) (fun hb => by have := HQ.out.lt hf; omega))
              rw [HFIN.out, ← HR3.out, HAE.out]
              rw [HAE.out] at hd8
              have hlt := fun b => hd8.lt (b := b)
              exact hd8.mono (fun b hb => hb.elim (fun hb => (H6.out.1 b hb).imp id (fun h => ⟨h, hlt b (.inl hb)⟩)) (fun hb => .inr ⟨by omega, by simpa using hb.2⟩)) (fun b hb => hb.elim (fun hb => by have := HR.out.lt hb; have := hm07.size; simp; omega) (fun hb => hb.2))
end Go.Proofs.Ytjdobjcbmmdjeaa
