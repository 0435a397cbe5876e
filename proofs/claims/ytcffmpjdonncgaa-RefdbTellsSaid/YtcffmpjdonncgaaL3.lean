/- RefdbTells: the walk. -/
import Derived.Test.YtcffmpjdonncgaaG12
import Derived.Test.YtcffmpjdonncgaaG10
import Derived.Test.YtcffmpjdonncgaaR2
namespace Go.Proofs.Ytcffmpjdonncgaa
open Go.RowKit Go.Proofs.YtcffmpjdonncgaaW.PrintWords
open Go.Proofs.Ytcffmpjdonncgaa.PRef

theorem below_drewN (w : World) (n : Nat) : Below w.heap.size w (w.drewN n) := pw_below_drewN (Below.refl _ _) n
/-- what is left of the infos that New was given, while their references are written over -/
def Left (w1 w2 : World) (b : Nat) (l : List S33) (wr : World) : Prop := ∀ j x, l[j]? = some x → ∃ A3 c3 xs, wr.cell? ⟨b, j * 4 + 3, none⟩ = some (.slice A3 x.f3.length c3) ∧ wr.ownsRow w1.heap.size 9 1 (.slice A3 x.f3.length c3) x.f3.length xs ∧ ∀ q, (Value.slice A3 x.f3.length c3).ownBlock = some q → q < w2.heap.size

theorem below_step {a b c : World} (h : Below a.heap.size a b) (k : Below b.heap.size b c) : Below a.heap.size a c := h.trans (k.mono h.size)
theorem Made.bel {w w' : World} {r : List ByteArray} {v : Value} (h : Made w r v w') : Below w.heap.size w w' := by
  obtain ⟨_, _, _, _, _, h⟩ := h
  exact h
theorem in_snoc {l : List ByteArray} {k : Nat} {t s : ByteArray} (h : l[k]? = some t) : inB (l.take (k + 1)) s = (inB (l.take k) s || decide (t = s)) := by
  obtain ⟨h1, h2⟩ := List.getElem?_eq_some_iff.1 h
  rw [List.take_succ_eq_append_getElem h1, h2]
  rw [Bool.eq_iff_iff, Bool.or_eq_true, inB_iff, inB_iff, List.mem_append, List.mem_singleton, decide_eq_true_iff]
  exact ⟨fun h => h.imp id (fun h => h.symm), fun h => h.imp id (fun h => h.symm)⟩
theorem keys_le {l : List S33} {m : List ByteArray} (h : m.Nodup) (hm : ∀ s ∈ m, s ∈ l.map (·.f0)) : m.length ≤ l.length := by
  have := h.length_le_of_subset (l₂ := l.map (·.f0)) (fun s hs => hm s hs)
  simpa using this
theorem tells_len {l : List S33} {n : Nat} {ps : List ByteArray} {s : ByteArray} {out : List ByteArray} (hl : l.length = n) (hn : n ≤ 4096) (hd : OrdDone l out) : (cloL l ps).length ≤ 1000000 ∧ (refR l s).length ≤ 1000000 ∧ (ordOut l out).length ≤ 1000000 ∧ (DS l ps).length ≤ 1000000 ∧ (derL l s).length ≤ 1000000 := by
  refine ⟨?_, ?_, ?_, ?_, ?_⟩
  · unfold cloL
    split
    · have := keys_le (RS_rising l ps).nodup (fun p hp => (RS_mem.1 hp).key); omega
    · simp
  · unfold refR
    split
    · have := keys_le (l := l) (m := refL l s) (SU_rising _).nodup (fun p hp => by obtain ⟨x, hx, e, _⟩ := refL_mem.1 hp; exact List.mem_map.2 ⟨x, hx, e⟩); omega
    · simp
  · unfold ordOut
    split
    · simp
    · have := hd.1.len; omega
  · have := keys_le (DS_rising l ps).nodup (fun p hp => (DS_mem.1 hp).1); omega
  · have := keys_le (l := l) (m := derL l s) (SU_rising _).nodup (fun p hp => by
      unfold derL at hp
      rw [SU_mem, List.mem_map] at hp
      obtain ⟨x, hx, e⟩ := hp
      exact List.mem_map.2 ⟨x, (List.mem_filter.1 hx).1, e⟩); omega

set_option maxRecDepth 100000 in
set_option maxHeartbeats 8000000 in
theorem refdbTells_walk (A : Option Addr) (n c : Nat) (l : List S33) (B : Option Addr) (m d : Nat) (ps : List ByteArray) (s : ByteArray) (w : World) (F : Nat → Prop) (hA : Kd.C k33 w A n l) (hc : n ≤ c) (hl : n ≤ 100000000000000) (hf : ∀ x ∈ l, x.f3.length ≤ 100000000000000)
    (hB : Sl w F 1 (.slice B m d) m (strs ps)) (hm : m ≤ 100000000000000) :
    Calls Try.prog 7 #[.slice A n c, .slice B m d, .string s] w fun e w' => e = .returned (.bool true) ∧ Below w.heap.size w w' := by
  have hln : l.length = n := hA.1
  have HFEW := Lib.hid (few_ok w A n c l hA hc (by omega) hf)
  have HA := Lib.hid hA
  have HB := Lib.hid hB
  have HLN := Lib.hid hln
  clear hA hB hf hln
  go_enter Try.func7, Try.ntmps7
  go_wp2_with fail
  refine HFEW.out.mono ?_
  rintro e w1 ⟨rfl, q1, hq1⟩
  obtain ⟨b1, hb1⟩ : ∃ b1, b1 = fewR l l.length := ⟨_, rfl⟩
  rw [← hb1]
  have HB1 := Lib.hid hb1
  have HW1 : Hid (Below w.heap.size w w1) := Lib.hid (by rw [hq1]; exact below_drewN w q1)
  clear HFEW hb1 hq1
  by_cases hb : b1 = true
  · subst hb
    by_cases hm100 : m ≤ 100
    · obtain ⟨hl400, hf400⟩ := few_yes HB1.out.symm
      have hn400 : n < 400 := by rw [← HLN.out]; exact hl400
      have HF4 := Lib.hid hf400
      have HOWN := Lib.hid (own_okR w1 A n c l (Kd.C_below HA.out HW1.out) hc (by omega) (fun x hx => by have := hf400 x hx; omega))
      clear hf400 hl400 HB1
      go_wp2_with fail
      refine HOWN.out.mono ?_
      rintro e w2 ⟨v2, rfl, hR2, hb2⟩
      obtain ⟨A2, c2, rfl, hc2, hC2⟩ := Kd.R_reads hR2
      have HR2 := Lib.hid hR2
      have HNEW := Lib.hid (new_ok w2 A2 l.length c2 l hC2 (by have := HLN.out; omega) (fun x hx => by have := HF4.out x hx; omega))
      have HW2 := Lib.hid (HW1.out.trans (hb2.mono HW1.out.size))
      have HB12 := Lib.hid hb2
      clear hC2 hb2 HOWN hR2
      go_wp2_with fail
      refine HNEW.out.mono ?_
      intro e w3 hpost
      have hb3 := hpost.1
      have HW3 := Lib.hid (HW2.out.trans (hb3.mono HW2.out.size))
      have HB23 := Lib.hid hb3
      obtain ⟨kw, hkw⟩ := (wrong_ev (l := l) (by have := HLN.out; omega) (fun x hx => by have := HF4.out x hx; omega)).at
      have HWR := Lib.hid (stillroomref12_Wrong.calls kw A c l _ w3 (by rw [HLN.out]; exact Kd.C_below HA.out HW3.out) (by rw [HLN.out]; exact hc) hkw)
      rw [HLN.out] at HWR
      clear HNEW HW2 hb3 hkw
      rcases hpost with ⟨_, ⟨he0, g, rfl, _, hgr⟩ | ⟨hne, rfl⟩⟩
      · obtain ⟨hnd, hall⟩ := newErr_zero he0
        rw [he0] at HWR
        have HND := Lib.hid hnd
        have HALL := Lib.hid hall
        obtain ⟨r, b, e, d0, k, hst, hpk⟩ := hgr
        have HST := Lib.hid hst
        have HPK := Lib.hid hpk
        clear he0 hnd hall hst hpk
        go_wp2_with fail
        refine HWR.out.mono ?_
        rintro e_ w4 ⟨rfl, hd4⟩
        obtain ⟨q4, hq4⟩ := hd4.out
        have HW34 : Hid (Below w3.heap.size w3 w4) := Lib.hid (by rw [hq4]; exact below_drewN w3 q4)
        have HNM := Lib.hid (stillroomlaw12_names.calls true w4 rfl)
        clear HWR hq4
        go_wp2_with fail
        refine HNM.out.mono ?_
        rintro e_ w5 ⟨rfl, hd5⟩
        obtain ⟨q5, hq5⟩ := hd5.out
        have HW35 : Hid (Below w3.heap.size w3 w5) := Lib.hid (HW34.out.trans (by rw [hq5]; exact (below_drewN w4 q5).mono HW34.out.size))
        clear HNM hq5
        obtain ⟨b2, hb2⟩ : ∃ b2, 0 < l.length → A2 = some ⟨b2, 0, none⟩ ∧ b2 < w2.heap.size ∧ (∃ cells, w5.heap[b2]? = some (.cells cells 33 (0, 0))) ∧ Left w1 w2 b2 l w5 := by
          have hb25 : Below w2.heap.size w2 w5 := HB23.out.trans (HW35.out.mono HB23.out.size)
          by_cases h0 : 0 < l.length
          · obtain ⟨b2, c2', hv, _, _, hlt, hce, hrows⟩ := own_rows HR2.out h0
            simp only [Value.slice.injEq] at hv
            refine ⟨b2, fun _ => ⟨hv.1, hlt, ?_, fun j x hx => ?_⟩⟩
            · obtain ⟨cells, hce⟩ := hce
              exact ⟨cells, (hb25.block b2 hlt).trans hce⟩
            · obtain ⟨A3, c3, h1, h2⟩ := hrows j x hx
              exact ⟨A3, c3, strs x.f3, (hb25.cell (p := ⟨b2, _, none⟩) hlt).trans h1, own_below h2 hb25, fun q hq => own_lt' h2 hq⟩
          · exact ⟨0, fun h => absurd h h0⟩
        have HL5 := Lib.hid hb2
        clear hb2
        go_wp2_with fail
        go_loopg [11] l.length (fun kq iv wr => ∃ (i : Nat), iv = .int .i64 i ∧ i ≤ l.length ∧ kq = l.length - i ∧ Hid (Mod (fun q => w1.heap.size ≤ q ∧ q < w2.heap.size) w5 wr) ∧ Hid (0 < l.length → A2 = some ⟨b2, 0, none⟩ ∧ b2 < w2.heap.size ∧ (∃ cells, wr.heap[b2]? = some (.cells cells 33 (0, 0))) ∧ Left w1 w2 b2 l wr))
        case atStart => exact ⟨0, rfl, Nat.zero_le _, rfl, Lib.hid (Mod.refl _ _), HL5⟩
        case round =>
          clear HL5
          obtain ⟨i, rfl, hi, rfl, hmd, hlf⟩ := hrel
          have hlen400 : l.length < 400 := by rw [HLN.out]; exact hn400
          by_cases hin : i < l.length
          · obtain ⟨x0, hx0⟩ : ∃ x0, l[i]? = some x0 := ⟨_, List.getElem?_eq_getElem hin⟩
            obtain ⟨hA2, hb2, _, _⟩ := hlf.out (by omega)
            subst hA2
            have HX0 := Lib.hid hx0
            have HX4 := Lib.hid (HF4.out x0 (List.mem_of_getElem? hx0))
            clear hx0
            go_wp2_with fail
            go_loopg [12] x0.f3.length (fun kq iv wr => ∃ (q : Nat), iv = .int .i64 q ∧ q ≤ x0.f3.length ∧ kq = x0.f3.length - q ∧ Hid (Mod (fun q => w1.heap.size ≤ q ∧ q < w2.heap.size) w5 wr) ∧ Hid ((∃ cells, wr.heap[b2]? = some (.cells cells 33 (0, 0))) ∧ Left w1 w2 b2 l wr))
            case atStart => exact ⟨0, rfl, Nat.zero_le _, rfl, hmd, Lib.hid (hlf.out (by omega)).2.2⟩
            case round =>
              clear hmd hlf
              obtain ⟨q, rfl, hq, rfl, hmd, hlf⟩ := hrel
              obtain ⟨A3, c3, xs, hc3, ho3, hlt3⟩ := hlf.out.2 i x0 HX0.out
              have hx4 := HX4.out
              have hb2w : b2 < wr.heap.size := by obtain ⟨cells, hh⟩ := hlf.out.1; exact (Array.getElem?_eq_some_iff.1 hh).1
              by_cases hql : q < x0.f3.length
              · obtain ⟨b3, cap3, hv3, hb3, _⟩ := ho3.form (by omega)
                simp only [Value.slice.injEq] at hv3
                obtain ⟨rfl, _, rfl⟩ := hv3
                have hlt3 := hlt3 b3 rfl
                have hxl : xs.length = x0.f3.length := by have := ho3.1; omega
                obtain ⟨u0, hu0⟩ : ∃ u0, xs[q]? = some u0 := ⟨_, List.getElem?_eq_getElem (by omega)⟩
                have hcu : wr.cell? ⟨b3, q, none⟩ = some u0 := by
                  have := ho3.cells rfl q _ hu0
                  rwa [add_lit0, Nat.zero_add] at this
                have hfz : wr.frozen? ⟨b3, q, none⟩ = false := ho3.frozenAt q
                have HO3 := Lib.hid ho3
                clear ho3 hu0
                go_wp2_with fail
                go_roundg (x0.f3.length - (q + 1))
                case measure => omega
                case rel =>
                  have hbase : w1.heap.size ≤ b3 := own_base HO3.out rfl
                  refine ⟨q + 1, by go_num, hql, rfl, Lib.hid (hmd.out.setCell (fun _ => ⟨hbase, hlt3⟩) _), ?_⟩
                  obtain ⟨⟨cells, hce⟩, hlf⟩ := hlf.out
                  have hne : b2 ≠ b3 := by
                    rintro rfl
                    obtain ⟨_, cells9, h9⟩ := q_typed (q_of_own HO3.out) b2 rfl
                    rw [hce] at h9
                    cases h9
                  refine Lib.hid ⟨⟨cells, (Below.heap_setCell wr ⟨b3, q, none⟩ _ b2 hne).trans hce⟩, fun j x hx => ?_⟩
                  obtain ⟨A4, c4, xs4, k1, k2, k3⟩ := hlf j x hx
                  obtain ⟨xs5, k4⟩ := own_turned k2 b3 q (.string ⟨#[63]⟩)
                  refine ⟨A4, c4, xs5, ?_, k4, k3⟩
                  have := Below.heap_setCell wr ⟨b3, q, none⟩ (.string ⟨#[63]⟩) b2 hne
                  rw [← k1]
                  simp only [World.cell?, this]
              · obtain rfl : q = x0.f3.length := by omega
                clear ho3 hlt3
                go_wp2_with fail
                go_roundg (l.length - (i + 1))
                case measure => omega
                case rel => exact ⟨i + 1, by go_num, by omega, rfl, hmd, Lib.hid (fun _ => ⟨by trivial, hb2, hlf.out⟩)⟩
          · obtain rfl : i = l.length := by omega
            have HG5 := Lib.hid (GrOf.turned HST.out HPK.out ((Mod.of_below HW35.out).trans hmd.out (fun _ _ h => h)) (fun x hx => hx.2))
            obtain ⟨wB, hwB⟩ : ∃ wB, wB = wr := ⟨_, rfl⟩
            have HW5 : Hid (Below w.heap.size w wr) := Lib.hid ((HW3.out.trans (HW35.out.mono HW3.out.size)).trans (hmd.out.below (Nat.le_trans (HW3.out.size) HW35.out.size) (fun q hq => Nat.le_trans HW1.out.size hq.1)))
            rw [← hwB] at HG5 HW5
            have HG : Hid (∀ wx, Below wB.heap.size wB wx → GrOf wx g l) := Lib.hid fun wx hx => HG5.out.below hx
            have HCA : Hid (∀ wx, Below wB.heap.size wB wx → Kd.C k33 wx A n l) := Lib.hid fun wx hx => Kd.C_below HA.out (HW5.out.trans (hx.mono HW5.out.size))
            have HSB : Hid (∀ wx, Below wB.heap.size wB wx → Sl wx F 1 (.slice B m d) m (strs ps)) := Lib.hid fun wx hx => HB.out.below (by omega) (HW5.out.trans (hx.mono HW5.out.size))
            have HNIL : Hid (∀ wx : World, (wx.alloc (.cells #[] 9)).ownsRow 0 9 1 (.slice (some ⟨wx.heap.size, 0, none⟩) 0 0) 0 []) := Lib.hid fun wx => own_of_blk (Blk.new wx 9 #[]) 1 0 rfl (Nat.zero_le _)
            have HONE : Hid (∀ u ∈ strs ps, u.oneCell' = true) := Lib.hid (by
              intro u hu
              simp only [strs, List.mem_map] at hu
              obtain ⟨y, _, rfl⟩ := hu
              rfl)
            have HF1000 : Hid (∀ x ∈ l, x.f3.length ≤ 1000) := Lib.hid fun x hx => by have := HF4.out x hx; omega
            have HF6 : Hid (∀ x ∈ l, x.f3.length ≤ 1000000) := Lib.hid fun x hx => by have := HF4.out x hx; omega
            have hln : l.length ≤ 4096 := by have := HLN.out; omega
            have HBA : Hid (Below wB.heap.size wB (wr.alloc (.cells #[] 9))) := Lib.hid (by rw [hwB]; exact (Below.refl _ _).alloc (Nat.le_refl _) _)
            have HBR : Hid (Below wB.heap.size wB wr) := Lib.hid (by rw [hwB]; exact Below.refl _ _)
            clear hwB hmd hlf HST HPK
            have hlf := True.intro
            go_wp2_with (at_builtin
                         refine wpList_app _ rfl (.tmp 84) (.tmp 85) 23 rfl 9 (.string ⟨#[]⟩) 1 16 Try.underlying23 infoStr rfl (by omega) (by omega) (.slice (some ⟨wr.heap.size, 0, none⟩) 0 0) 0 [] rfl (HNIL.out wr) F (.slice B m d) m (strs ps) rfl (HSB.out _ HBA.out) HONE.out (by omega) ?_
                         intro A8 c8 w8 o8 g8 at8 _
                         simp only [Nat.zero_add, List.nil_append] at o8 g8 at8
                         have HO8 := Lib.hid o8
                         have HB8 : Hid (Below wB.heap.size wB w8) := Lib.hid (by
                           have hm : Mod (fun q => q = wr.heap.size) wr w8 := ((Mod.refl _ _).alloc _).grown g8 (fun k hk _ => by simpa [Value.ownBlock] using hk.symm)
                           exact HBR.out.trans (hm.below HBR.out.size (fun q hq => by rw [hq]; exact HBR.out.size)))
                         clear o8 g8 at8)
            refine (closure_ok w8 _ g l A8 m c8 ps (HG.out _ HB8.out) (Sl.of_own HO8.out) (by omega) hln HND.out HF1000.out).mono ?_
            rintro e_ w9 ⟨va, rfl, hm9⟩
            have HM9 := Lib.hid hm9
            have HS9 := Lib.hid hm9.bel
            have HB9 : Hid (Below wB.heap.size wB w9) := Lib.hid (below_step HB8.out hm9.bel)
            clear hm9
            go_wp2_with fail
            refine (rclosure_ok w9 A n c l (HCA.out _ HB9.out) hc (by omega) HF6.out HND.out HALL.out _ B m d ps (HSB.out _ HB9.out) (by omega)).mono ?_
            rintro e_ w10 ⟨vb, rfl, hm10⟩
            have HM10 := Lib.hid hm10
            have HS10 := Lib.hid hm10.bel
            have HB10 : Hid (Below wB.heap.size wB w10) := Lib.hid (below_step HB9.out hm10.bel)
            clear hm10
            go_wp2_with fail
            refine (referrers_ok w10 g l s (HG.out _ HB10.out) hln HND.out).mono ?_
            rintro e_ w11 ⟨vc, rfl, hm11⟩
            have HM11 := Lib.hid hm11
            have HS11 := Lib.hid hm11.bel
            have HB11 : Hid (Below wB.heap.size wB w11) := Lib.hid (below_step HB10.out hm11.bel)
            clear hm11
            go_wp2_with fail
            refine (rreferrers_ok w11 A n c l (HCA.out _ HB11.out) hc (by omega) HF6.out s).mono ?_
            rintro e_ w12 ⟨vd, rfl, hm12⟩
            have HM12 := Lib.hid hm12
            have HS12 := Lib.hid hm12.bel
            have HB12 : Hid (Below wB.heap.size wB w12) := Lib.hid (below_step HB11.out hm12.bel)
            clear hm12
            go_wp2_with fail
            refine (order_ok w12 g l (HG.out _ HB12.out) hln HND.out HF1000.out).mono ?_
            rintro e_ w13 ⟨ve, out1, hd1, rfl, hm13⟩
            have HM13 := Lib.hid hm13
            have HS13 := Lib.hid hm13.bel
            have HB13 : Hid (Below wB.heap.size wB w13) := Lib.hid (below_step HB12.out hm13.bel)
            clear hm13
            have HD1 := Lib.hid hd1
            clear hd1
            go_wp2_with fail
            refine (rorder_ok w13 A n c l (HCA.out _ HB13.out) hc (by omega) HF6.out).mono ?_
            rintro e_ w14 ⟨vf, out2, hd2, rfl, hm14⟩
            have HM14 := Lib.hid hm14
            have HS14 := Lib.hid hm14.bel
            have HB14 : Hid (Below wB.heap.size wB w14) := Lib.hid (below_step HB13.out hm14.bel)
            clear hm14
            obtain rfl : out2 = out1 := (Ord.uniq hd2 HD1.out)
            clear hd2
            have HLEN : Hid ((cloL l ps).length ≤ 1000000 ∧ (refR l s).length ≤ 1000000 ∧ (ordOut l out2).length ≤ 1000000 ∧ (DS l ps).length ≤ 1000000 ∧ (derL l s).length ≤ 1000000) := Lib.hid (tells_len HLN.out (by omega) HD1.out)
            obtain ⟨z1, hz1⟩ : ∃ z1, z1 = knownErr l ps := ⟨_, rfl⟩
            obtain ⟨z2, hz2⟩ : ∃ z2, z2 = knownErr l [s] := ⟨_, rfl⟩
            obtain ⟨z3, hz3⟩ : ∃ z3, z3 = ordErr l out2 := ⟨_, rfl⟩
            rw [← hz1, ← hz2, ← hz3]
            clear hz1 hz2 hz3
            have hz1 : (z1 != z1) = false := bne_self_eq_false z1
            have hz2 : (z2 != z2) = false := bne_self_eq_false z2
            have hz3 : (z3 != z3) = false := bne_self_eq_false z3
            go_wp2_with fail
            refine (same_yes w14 _ _ _ _ _ _ _ HM9.out HM10.out (below_step (below_step (below_step (below_step HS10.out HS11.out) HS12.out) HS13.out) HS14.out) (below_step (below_step (below_step HS11.out HS12.out) HS13.out) HS14.out) HLEN.out.1).mono ?_
            rintro e_ w15 ⟨rfl, hb15⟩
            have HS15 := Lib.hid hb15
            have HB15 : Hid (Below wB.heap.size wB w15) := Lib.hid (below_step HB14.out hb15)
            clear hb15
            go_wp2_with fail
            refine (same_yes w15 _ _ _ _ _ _ _ HM11.out HM12.out (below_step (below_step (below_step HS12.out HS13.out) HS14.out) HS15.out) (below_step (below_step HS13.out HS14.out) HS15.out) HLEN.out.2.1).mono ?_
            rintro e_ w16 ⟨rfl, hb16⟩
            have HS16 := Lib.hid hb16
            have HB16 : Hid (Below wB.heap.size wB w16) := Lib.hid (below_step HB15.out hb16)
            clear hb16
            go_wp2_with fail
            refine (same_yes w16 _ _ _ _ _ _ _ HM13.out HM14.out (below_step (below_step HS14.out HS15.out) HS16.out) (below_step HS15.out HS16.out) HLEN.out.2.2.1).mono ?_
            rintro e_ w17 ⟨rfl, hb17⟩
            have HS17 := Lib.hid hb17
            have HB17 : Hid (Below wB.heap.size wB w17) := Lib.hid (below_step HB16.out hb17)
            clear hb17
            go_wp2_with fail
            refine (dead_ok w17 F g l B m d ps (HG.out _ HB17.out) (HSB.out _ HB17.out) (by omega) hln HND.out HF1000.out).mono ?_
            rintro e_ w18 ⟨vg, rfl, hm18⟩
            have HM18 := Lib.hid hm18
            have HS18 := Lib.hid hm18.bel
            have HB18 : Hid (Below wB.heap.size wB w18) := Lib.hid (below_step HB17.out hm18.bel)
            clear hm18
            go_wp2_with fail
            refine (rdead_ok w18 A n c l (HCA.out _ HB18.out) hc (by omega) HF6.out HND.out HALL.out F B m d ps (HSB.out _ HB18.out) (by omega)).mono ?_
            rintro e_ w19 ⟨vh, rfl, hm19⟩
            have HM19 := Lib.hid hm19
            have HS19 := Lib.hid hm19.bel
            have HB19 : Hid (Below wB.heap.size wB w19) := Lib.hid (below_step HB18.out hm19.bel)
            clear hm19
            go_wp2_with fail
            refine (same_yes w19 _ _ _ _ _ _ _ HM18.out HM19.out HS19.out (Below.refl w19.heap.size w19) HLEN.out.2.2.2.1).mono ?_
            rintro e_ w20 ⟨rfl, hb20⟩
            have HS20 := Lib.hid hb20
            have HB20 : Hid (Below wB.heap.size wB w20) := Lib.hid (below_step HB19.out hb20)
            clear hb20
            go_wp2_with fail
            refine (derived_ok w20 g l s (HG.out _ HB20.out) hln).mono ?_
            rintro e_ w21 ⟨vi, rfl, hm21⟩
            have HM21 := Lib.hid hm21
            have HS21 := Lib.hid hm21.bel
            have HB21 : Hid (Below wB.heap.size wB w21) := Lib.hid (below_step HB20.out hm21.bel)
            clear hm21
            go_wp2_with fail
            refine (rderived_ok w21 A n c l (HCA.out _ HB21.out) hc (by omega) s).mono ?_
            rintro e_ w22 ⟨vj, rfl, hm22⟩
            have HM22 := Lib.hid hm22
            have HS22 := Lib.hid hm22.bel
            have HB22 : Hid (Below wB.heap.size wB w22) := Lib.hid (below_step HB21.out hm22.bel)
            clear hm22
            go_wp2_with fail
            refine (same_yes w22 _ _ _ _ _ _ _ HM21.out HM22.out HS22.out (Below.refl w22.heap.size w22) HLEN.out.2.2.2.2).mono ?_
            rintro e_ w23 ⟨rfl, hb23⟩
            have HS23 := Lib.hid hb23
            have HB23 : Hid (Below wB.heap.size wB w23) := Lib.hid (below_step HB22.out hb23)
            clear hb23
            go_wp2_with fail
            clear HS9
            clear HS10
            clear HS11
            clear HS12
            clear HS13
            clear HS14
            clear HS15
            clear HS16
            clear HS17
            clear HS18
            clear HS19
            clear HS20
            clear HS21
            clear HS22
            clear HS23
            clear HB8
            clear HB9
            clear HB10
            clear HB11
            clear HB12
            clear HB13
            clear HB14
            clear HB15
            clear HB16
            clear HB17
            clear HB18
            clear HB19
            clear HB20
            clear HB21
            clear HB22
            clear HM9
            clear HM10
            clear HM11
            clear HM12
            clear HM13
            clear HM14
            clear HM18
            clear HM19
            clear HM21
            clear HM22
            clear HLEN hz1 hz2 hz3 HD1 HO8
            go_loopg [23] n (fun kq iv wr => ∃ (i : Nat), iv = .int .i64 i ∧ i ≤ n ∧ kq = n - i ∧ Hid (Below wB.heap.size wB wr))
            case atStart => exact ⟨0, rfl, Nat.zero_le _, rfl, HB23⟩
            case round =>
              clear HB23
              obtain ⟨i, rfl, hi, rfl, hb⟩ := hrel
              have hlen400 : n < 400 := hn400
              by_cases hin : i < n
              · have hcells := (info_at HA.out).2.2
                obtain ⟨b, o, rfl, hbl, hcl⟩ := hcells (by omega)
                obtain ⟨x, hx⟩ : ∃ x, l[i]? = some x := ⟨_, List.getElem?_eq_getElem (by rw [HLN.out]; exact hin)⟩
                obtain ⟨A3, c3, hx0, _, _, hx3, hs3⟩ := hcl i x hx
                have HX : Hid (∀ wx, Below wB.heap.size wB wx → wx.cell? ⟨b, o + i * 4, none⟩ = some (.string x.f0) ∧ wx.cell? ⟨b, o + i * 4 + 3, none⟩ = some (.slice A3 x.f3.length c3)) := Lib.hid fun wx hxb =>
                  have h2 := HW5.out.trans (hxb.mono HW5.out.size)
                  ⟨(h2.cell (p := ⟨b, _, none⟩) hbl).trans hx0, (h2.cell (p := ⟨b, _, none⟩) hbl).trans hx3⟩
                have HS3 := Lib.hid (hs3.lt (by omega))
                have hxl := HF4.out x (List.mem_of_getElem? hx)
                have HXM := Lib.hid (List.mem_of_getElem? hx)
                clear hcells hcl hx hx0 hx3 hs3
                go_wp2_with fail
                go_loopg [24, 25] x.f3.length (fun kq rv kv wr => ∃ (k : Nat) (rb : Bool), rv = .bool rb ∧ kv = .int .i64 k ∧ k ≤ x.f3.length ∧ kq = x.f3.length - k ∧ Hid (rb = inB (x.f3.take k) s) ∧ Hid (Below wB.heap.size wB wr))
                case atStart => exact ⟨0, false, rfl, rfl, Nat.zero_le _, rfl, Lib.hid (by rw [List.take_zero, inB_no (by simp)]), hb⟩
                case round =>
                  clear hb
                  obtain ⟨k, rb, rfl, rfl, hk, rfl, hrb, hb⟩ := hrel
                  have q0 := (HX.out wr hb.out).1
                  have q3 := (HX.out wr hb.out).2
                  by_cases hkl : k < x.f3.length
                  · obtain ⟨b3, o3, rfl, hb3l, hc3⟩ := Sl_cells HS3.out (by omega)
                    obtain ⟨t, ht⟩ : ∃ t, x.f3[k]? = some t := ⟨_, List.getElem?_eq_getElem hkl⟩
                    have qt : wr.cell? ⟨b3, o3 + k, none⟩ = some (.string t) := ((HW5.out.trans (hb.out.mono HW5.out.size)).cell (p := ⟨b3, _, none⟩) hb3l.2).trans (hc3 k t ht)
                    have HTK : Hid (inB (x.f3.take (k + 1)) s = (inB (x.f3.take k) s || decide (t = s))) := Lib.hid (in_snoc ht)
                    clear hc3 ht hb3l
                    cases rb with
                    | true =>
                      have HN : Hid (inB (x.f3.take (k + 1)) s = true) := Lib.hid (by rw [HTK.out, ← hrb.out]; rfl)
                      clear hrb qt q0
                      go_wp2_with fail
                      go_roundg (x.f3.length - (k + 1))
                      case measure => omega
                      case rel => exact ⟨k + 1, true, rfl, by go_num, by omega, rfl, Lib.hid HN.out.symm, hb⟩
                    | false =>
                      by_cases hts : t = s
                      · have HN : Hid (inB (x.f3.take (k + 1)) s = true) := Lib.hid (by rw [HTK.out, decide_eq_true hts, Bool.or_true])
                        have qe : (t.toList == s.toList) = true := by rw [bool_or_not]; exact decide_eq_true hts
                        clear hrb hts q0
                        go_wp2_with fail
                        go_roundg (x.f3.length - (k + 1))
                        case measure => omega
                        case rel => exact ⟨k + 1, true, rfl, by go_num, by omega, rfl, Lib.hid HN.out.symm, hb⟩
                      · have HN : Hid (inB (x.f3.take (k + 1)) s = false) := Lib.hid (by rw [HTK.out, decide_eq_false hts, Bool.or_false]; exact hrb.out.symm)
                        have qe : (t.toList == s.toList) = false := by rw [bool_or_not]; exact decide_eq_false hts
                        clear hrb hts q0
                        go_wp2_with fail
                        go_roundg (x.f3.length - (k + 1))
                        case measure => omega
                        case rel => exact ⟨k + 1, false, rfl, by go_num, by omega, rfl, Lib.hid HN.out.symm, hb⟩
                  · obtain rfl : k = x.f3.length := by omega
                    have HRB : Hid (inB x.f3 s = rb) := Lib.hid (by have := hrb.out; rw [List.take_length] at this; exact this.symm)
                    have HRF := Lib.hid (refers_ok wr g l x s (HG.out wr hb.out) HND.out HXM.out)
                    rw [HRB.out] at HRF
                    have hbb : (rb != rb) = false := bne_self_eq_false rb
                    clear hrb
                    go_wp2_with fail
                    refine HRF.out.mono ?_
                    rintro e_ w' ⟨rfl, rfl⟩
                    go_wp2_with fail
                    go_roundg (n - (i + 1))
                    case measure => omega
                    case rel => exact ⟨i + 1, by go_num, by omega, rfl, hb⟩
              · obtain rfl : i = n := by omega
                go_wp2_with fail
                go_ret
                exact ⟨rfl, HW5.out.trans (hb.out.mono HW5.out.size)⟩
      · obtain ⟨z, hz⟩ : ∃ z, z = newErr l := ⟨_, rfl⟩
        rw [← hz] at hne HWR ⊢
        have hzb : (z != 0) = true := by rw [bne_iff_ne]; exact hne
        clear hz
        go_wp2_with fail
        refine HWR.out.mono ?_
        rintro e_ w4 ⟨rfl, hd4⟩
        obtain ⟨q4, hq4⟩ := hd4.out
        have HNM := Lib.hid (stillroomlaw12_names.calls true w4 rfl)
        have HW4 : Hid (Below w.heap.size w w4) := Lib.hid (HW3.out.trans (by rw [hq4]; exact (below_drewN w3 q4).mono HW3.out.size))
        clear HWR hq4
        go_wp2_with fail
        refine HNM.out.mono ?_
        rintro e_ w5 ⟨rfl, hd5⟩
        obtain ⟨q5, hq5⟩ := hd5.out
        have HW5 : Hid (Below w.heap.size w w5) := Lib.hid (HW4.out.trans (by rw [hq5]; exact (below_drewN w4 q5).mono HW4.out.size))
        clear HNM hq5
        go_wp2_with fail
        go_ret
        exact ⟨rfl, HW5.out⟩
    · go_wp2_with fail
      go_ret
      exact ⟨rfl, HW1.out⟩
  · obtain rfl : b1 = false := by simpa using hb
    go_wp2_with fail
    go_ret
    exact ⟨rfl, HW1.out⟩
end Go.Proofs.Ytcffmpjdonncgaa
