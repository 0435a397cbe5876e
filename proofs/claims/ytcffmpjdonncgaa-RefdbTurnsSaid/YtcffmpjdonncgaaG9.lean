/- RefdbX: contract of Order. -/
import Derived.Test.YtcffmpjdonncgaaG8
import Derived.Test.YtcffmpjdonncgaaQs
namespace Go.Proofs.Ytcffmpjdonncgaa
open Go.RowKit Go.Proofs.YtcffmpjdonncgaaW.PrintWords
open Go.Proofs.Ytcffmpjdonncgaa.PRef (S33 k33 k33_open z33)

noncomputable abbrev cntV (out : List ByteArray) (x : S33) : Value := .int .i64 ((cnt out x : Nat) : Int)
noncomputable def ordErr (l : List S33) (out : List ByteArray) : Int := if out.length < l.length then 16 else 0
noncomputable def ordOut (l : List S33) (out : List ByteArray) : List ByteArray := if out.length < l.length then [] else out
theorem MapAt.ne_q {α : Type} [DecidableEq α] {P : Program} {t : TypeId} {K : Keys P t α} {w : World} {g : Nat} {D : List (α × Value)} {base : Nat} {e : TypeId} {size n : Nat} {v : Value} {xs : List Value} (h : MapAt K w g D) (ho : QRow w base e size v n xs) : v.ownBlock ≠ some g := by
  intro hv
  obtain ⟨_, cells, hc⟩ := q_typed ho g hv
  obtain ⟨es, clock, h1, _⟩ := h
  rw [hc] at h1
  cases h1
theorem q_mod {F : Nat → Prop} {w w' : World} {base n size : Nat} {e : TypeId} {v : Value} {xs : List Value} (h : QRow w base e size v n xs) (hm : Mod F w w') (hF : ∀ b, v.ownBlock = some b → ¬ F b) : QRow w' base e size v n xs :=
  q_move h fun k hk => hm.block k (q_lt h k hk) (hF k hk)
theorem q_base {w : World} {base n size : Nat} {e : TypeId} {v : Value} {xs : List Value} (h : QRow w base e size v n xs) {q : Nat} (hq : v.ownBlock = some q) : base ≤ q := (q_typed h q hq).1
theorem Iter.dnodup {α : Type} [DecidableEq α] {P : Program} {t : TypeId} {K : Keys P t α} {w : World} {r g : Nat} {D done : List (α × Value)} (h : Iter K w r g D done) : (done.map (·.1)).Nodup := by
  obtain ⟨es, clock, since, seen, c0, _, _, _, _, _, _, _, _, _, ds, _, _, _, hn, _⟩ := h
  exact hn
theorem M1f_D {l : List S33} {p : ByteArray} {D : List (ByteArray × Value)} {v : Value} (hk : D.map (·.1) = (M1f l l.length).map (·.1)) (h : (p, v) ∈ D) : ∃ x ∈ l, x.f0 = p :=
  M1f_mem (by rw [← hk]; exact List.mem_map.2 ⟨(p, v), h, rfl⟩)
/-- what the wants are, of those that were gone through -/
def Wants (l : List S33) (ks : List ByteArray) (W : List (ByteArray × Value)) : Prop := W.map (·.1) = ks ∧ ∀ x ∈ l, x.f0 ∈ ks → mget W x.f0 = some (cntV [] x)
theorem cnt_nil_in {x : S33} (h : x.f0 ∈ x.f3) : (SU x.f3).length = cnt [] x + 1 := by
  classical
  have := filter_one (l := SU x.f3) (SU_rising _).nodup (fun _ => true) (fun t => decide (t ≠ x.f0 ∧ t ∉ ([] : List ByteArray))) x.f0 (SU_mem.2 h) rfl (by simp) (fun t ht => by simp [ht])
  unfold cnt
  rw [← this, List.filter_eq_self.2 (fun _ _ => rfl)]
theorem cnt_nil_out {x : S33} (h : x.f0 ∉ x.f3) : (SU x.f3).length = cnt [] x := by
  classical
  unfold cnt
  rw [List.filter_eq_self.2]
  intro t ht
  simp only [decide_eq_true_eq, List.not_mem_nil, not_false_eq_true, and_true]
  rintro rfl
  exact h (SU_mem.1 ht)
theorem NewSt.edgeLook {w0 w : World} {X : Nat → Prop} {g r b e d : Nat} {M1 Mb Md : List (ByteArray × List ByteArray)} {k : List (ByteArray × List ByteArray)} {l : List S33} (h : NewSt w0 w X g r b e d M1 Mb Md (edgeOf k)) (hp : k.Perm (M1f l l.length)) (hn : (l.map (·.f0)).Nodup) {x : S33} (hx : x ∈ l) (t : ByteArray) : (Instr.lookup 40 (.map (some e)) (.agg #[.string x.f0, .string t]) false).run Try.prog w = .ok (.bool (inB x.f3 t)) w := by
  obtain ⟨⟨Fr, Fb, Fd, D1, Db, Dd, hs, hlo, _⟩, hbel⟩ := h
  have hg := edge_get hp hn hx t
  by_cases ht : t ∈ x.f3
  · rw [if_pos ht] at hg
    rw [inB_iff.2 ht]
    exact hs.edges.lookup_some (mt := 40) Try.underlying40 hg false
  · rw [if_neg ht] at hg
    rw [inB_no ht]
    exact hs.edges.lookup_none (mt := 40) Try.underlying40 hg (zeroBool w) false
theorem NewSt.backLook {w0 w : World} {X : Nat → Prop} {g r b e d : Nat} {M1 Mb Md : List (ByteArray × List ByteArray)} {E : List ((ByteArray × ByteArray) × Value)} (h : NewSt w0 w X g r b e d M1 Mb Md E) (p : ByteArray) : ∃ A c, (∀ w', Below w.heap.size w w' → (Instr.lookup 39 (.map (some b)) (.string p) false).run Try.prog w' = .ok (.slice A (mgetD Mb p).length c) w') ∧ w.ownsRow 0 9 1 (.slice A (mgetD Mb p).length c) (mgetD Mb p).length (strs (mgetD Mb p)) := by
  obtain ⟨v, A, c, rfl, h1, h2, _⟩ := h.toBack p
  exact ⟨A, c, h1, h2⟩

open Classical in
/-- what a path waits for, while a path's referrers are gone through -/
noncomputable def wantV (s : List ByteArray) (p : ByteArray) (out out2 : List ByteArray) (x : S33) : Value := if x.f0 ∈ s ∧ x.f0 ≠ p then cntV out2 x else cntV out x
theorem wantV_pos {s : List ByteArray} {p : ByteArray} {out out2 : List ByteArray} {x : S33} (h : x.f0 ∈ s) (h2 : x.f0 ≠ p) : wantV s p out out2 x = cntV out2 x := if_pos ⟨h, h2⟩
theorem wantV_neg {s : List ByteArray} {p : ByteArray} {out out2 : List ByteArray} {x : S33} (h : x.f0 ∈ s → x.f0 = p) : wantV s p out out2 x = cntV out x := if_neg fun k => k.2 (h k.1)
theorem wantV_congr {s s' : List ByteArray} {p : ByteArray} {out out2 : List ByteArray} {x : S33} (h : x.f0 ≠ p → (x.f0 ∈ s ↔ x.f0 ∈ s')) : wantV s p out out2 x = wantV s' p out out2 x := by
  by_cases h1 : x.f0 = p
  · rw [wantV_neg (fun _ => h1), wantV_neg (fun _ => h1)]
  · by_cases h2 : x.f0 ∈ s
    · rw [wantV_pos h2 h1, wantV_pos ((h h1).1 h2) h1]
    · rw [wantV_neg (fun k => (h2 k).elim), wantV_neg (fun k => (h2 ((h h1).2 k)).elim)]

set_option maxRecDepth 100000 in
set_option maxHeartbeats 8000000 in
theorem order_ok (w : World) (g : Nat) (l : List S33) (h : GrOf w g l) (hl : l.length ≤ 4096) (hnd : (l.map (·.f0)).Nodup) (hr : ∀ x ∈ l, x.f3.length ≤ 1000) :
    Calls Try.prog 15 #[.pointer (some ⟨g, 0, none⟩)] w fun e w' => ∃ v out, OrdDone l out ∧ e = .returned (.tuple #[v, .int .i64 (ordErr l out)]) ∧ Made w (ordOut l out) v w' := by
  have hmk : ∀ wx : World, (Instr.makeMap 64 none).run Try.prog wx = .ok (.map (some wx.heap.size)) (wx.alloc (.map #[] 0)) := fun wx => rfl
  have HNO := Lib.hid h.isnt
  have HND := Lib.hid hnd
  have HR := Lib.hid hr
  obtain ⟨w0, r, b, e, d, k, hst0, hpk⟩ := h
  obtain ⟨D0, hD0⟩ := hst0.refsMap
  have hrlt := hD0.lt
  clear hnd hr
  obtain ⟨w1, hw1⟩ : ∃ w1, w1 = w.alloc (.map #[] 0) := ⟨_, rfl⟩
  have hb1 : Below w.heap.size w w1 := by rw [hw1]; exact (Below.refl _ _).alloc (Nat.le_refl _) _
  have hm1 : MapAt KS w1 w.heap.size [] := by rw [hw1]; exact MapAt.new w
  have hst := hst0.later hb1
  obtain ⟨D1, hD1⟩ := hst.refsMap
  have hkeys := (hst.rows hD1).1
  obtain ⟨w2, hrun, hit, hb2⟩ := hD1.range Try.underlying39
  obtain ⟨it, hit0⟩ : ∃ it, it = w1.heap.size := ⟨_, rfl⟩
  rw [← hit0] at hrun hit
  obtain ⟨q0, q1, q2, q3, q4⟩ := hst.cells
  have hkl := hkeys
  rw [M1f_keys] at hkl
  have hdl : D1.length = l.length := by have h := congrArg List.length hkl; simpa using h
  have hs1 := hb1.size
  have HI := Lib.hid hit
  have HB := Lib.hid (hb1.trans (hb2.mono hb1.size))
  have HM := Lib.hid (hm1.below hb2)
  have HST := Lib.hid hst0
  have HPK := Lib.hid hpk
  have HKE := Lib.hid hkeys
  have HKL := Lib.hid hkl
  have HIT := Lib.hid (show w.heap.size ≤ it by rw [hit0]; exact hs1)
  have HWI : Hid (w.heap.size ≠ it ∧ w.heap.size ≠ r) := Lib.hid ⟨by rw [hit0]; have := hm1.lt; omega, by omega⟩
  have HDL := Lib.hid hdl
  have HW1 := Lib.hid hw1
  clear hst hst0 hpk hkeys hit hb1 hb2 hm1 hD0 hD1 hit0 hkl hs1
  go_enter Try.func15, Try.ntmps15
  go_wp2_with fail
  refine HNO.out.mono ?_
  rintro e_ w' ⟨rfl, rfl⟩
  clear HNO
  rw [HW1.out] at hrun q0 q1 q2 q3 q4
  go_wp2_with fail
  clear hrun q0 q1 q2 q3 q4 hmk
  go_loopg [5] (D1.length + 1) (fun kq rv wr => ∃ (done : List (ByteArray × Value)) (rd : List ByteArray) (A : Option Addr) (c : Nat) (W : List (ByteArray × Value)), rv = .slice A rd.length c ∧ rd.length ≤ done.length ∧ done.length ≤ D1.length ∧ kq = D1.length + 1 - done.length ∧ Hid (Iter KS wr it r D1 done) ∧ Hid (MapAt KS wr w.heap.size W ∧ Wants l (done.map (·.1)) W) ∧
    Hid (wr.ownsRow w.heap.size 9 1 (.slice A rd.length c) rd.length (strs rd)) ∧ Hid (Below w.heap.size w wr) ∧ Hid (rd.Nodup ∧ ∀ s, s ∈ rd ↔ s ∈ done.map (·.1) ∧ ∃ x ∈ l, x.f0 = s ∧ cnt [] x = 0))
  case atStart => exact ⟨[], [], none, 0, [], rfl, Nat.le_refl _, Nat.zero_le _, rfl, HI, Lib.hid ⟨HM.out, rfl, by simp⟩, Lib.hid ⟨by simp [strs], .inl ⟨rfl, rfl⟩⟩, HB, Lib.hid ⟨List.nodup_nil, by simp⟩⟩
  case round =>
    clear HI HB HM
    obtain ⟨done, rd, A, c, W, rfl, hrl, hdn, rfl, hi, hw, ho, hb, hmem⟩ := hrel
    rcases hi.out.next 0 with ⟨hall, hnx⟩ | ⟨x, w2, hnx, hen, hi2, hxD, hmod⟩
    · -- all were gone through
      have hpm := hi.out.perm hall
      have hks : ∀ x ∈ l, x.f0 ∈ done.map (·.1) := fun x hx => by
        rw [(hpm.map _).mem_iff, HKL.out]; exact List.mem_map.2 ⟨x, hx, rfl⟩
      have HSO := Lib.hid (sort_strs wr A rd.length c rd (own_lower ho.out (Nat.zero_le _)) (by omega))
      have hsu : SU rd = readyL l [] := by
        refine rising_ext (SU_rising _) (readyL_rising _ _) (fun s => ?_)
        rw [SU_mem, hmem.out.2 s, readyL_mem]
        constructor
        · rintro ⟨_, x, hx, rfl, hc⟩
          exact ⟨x, hx, rfl, by simp, fun t ht hne => cnt_zero.1 hc t ht hne⟩
        · rintro ⟨x, hx, rfl, _, hc⟩
          exact ⟨hks x hx, x, hx, rfl, cnt_zero.2 hc⟩
      have HSU := Lib.hid (And.intro hsu (sort_nodup hmem.out.1))
      have HWA : Hid (MapAt KS wr w.heap.size W ∧ ∀ x ∈ l, mget W x.f0 = some (cntV [] x)) := Lib.hid ⟨hw.out.1, fun x hx => hw.out.2.2 x hx (hks x hx)⟩
      have HRL := Lib.hid (show rd.length = (readyL l []).length from by
        rw [← hsu, ← sort_nodup hmem.out.1]
        simp [cooked, raw])
      clear hall hpm hks hsu hmem hi hw
      go_wp2_with fail
      refine HSO.out.mono ?_
      rintro e_ w3 ⟨rfl, ho3, hm3⟩
      have HM3 : Hid (MapAt KS w3 w.heap.size W) := Lib.hid (HWA.out.1.mod hm3 (fun hq => HWA.out.1.ne_own ho.out hq))
      have HB3 : Hid (Below w.heap.size w w3) := Lib.hid (hb.out.trans (hm3.below hb.out.size (fun q hq => own_base ho.out hq)))
      have HO3 : Hid (QRow w3 w.heap.size 9 1 (.slice A (readyL l []).length c) (readyL l []).length (strs (readyL l []))) := by
        rw [HSU.out.2, HSU.out.1, HRL.out] at ho3
        refine Lib.hid (q_of_own (own_raise ho3 (fun q hq => ?_)))
        exact own_base ho.out (by rw [HRL.out]; exact hq)
      have HW3 := Lib.hid HWA.out.2
      go_wp2_with fail
      rw [HRL.out]
      clear HSO HWA ho hb hm3 ho3 HSU hdn hrl HRL
      go_loopg [5, 6] (l.length + 1) (fun kq rv ov wr => ∃ (out ready : List ByteArray) (A : Option Addr) (c : Nat) (Ao : Option Addr) (co : Nat) (W : List (ByteArray × Value)), rv = .slice A ready.length c ∧ ov = .slice Ao out.length co ∧ kq = l.length + 1 - out.length ∧ out.length ≤ l.length ∧ Hid (Ord l out) ∧ Hid (ready = readyL l out) ∧ Hid (Below w.heap.size w wr) ∧ Hid (MapAt KS wr w.heap.size W ∧ ∀ x ∈ l, mget W x.f0 = some (cntV out x)) ∧
        Hid (QRow wr w.heap.size 9 1 (.slice A ready.length c) ready.length (strs ready)) ∧ Hid (wr.ownsRow w.heap.size 9 1 (.slice Ao out.length co) out.length (strs out)) ∧ Hid (∀ q, (Value.slice A ready.length c).ownBlock = some q → (Value.slice Ao out.length co).ownBlock ≠ some q))
      case atStart => exact ⟨[], readyL l [], A, c, none, 0, W, rfl, rfl, rfl, Nat.zero_le _, Lib.hid .nil, Lib.hid rfl, HB3, Lib.hid ⟨HM3.out, HW3.out⟩, HO3, Lib.hid ⟨by simp [strs], .inl ⟨rfl, rfl⟩⟩, Lib.hid (fun q _ => by simp [Value.ownBlock])⟩
      case round =>
        clear HB3 HM3 HW3 HO3
        obtain ⟨out, ready, A, c, Ao, co, W, rfl, rfl, rfl, hol, hord, hready, hb, hw, hq, ho, hdis⟩ := hrel
        have hrdl : ready.length ≤ l.length := by
          rw [hready.out]
          have := (readyL_rising l out).nodup.length_le_of_subset (l₂ := l.map (·.f0)) (fun s hs => by obtain ⟨x, hx, e, _⟩ := readyL_mem.1 hs; exact List.mem_map.2 ⟨x, hx, e⟩)
          simpa using this
        have HST2 := Lib.hid (HST.out.later hb.out)
        obtain ⟨q0, q1, q2, q3, q4⟩ := HST2.out.cells
        cases ready with
        | nil =>
          have HDN : Hid (OrdDone l out) := Lib.hid ⟨hord.out, hready.out.symm⟩
          obtain ⟨Dr, hDr⟩ := HST2.out.refsMap
          have hdr : Dr.length = l.length := by have h := congrArg List.length (HST2.out.rows hDr).1; rw [M1f_keys] at h; simpa using h
          have hlen : (Builtin.len_ #[39] 3 #[.map (some r)]).run Try.prog wr = .ok (.int .i64 (l.length : Int)) wr := by rw [← hdr]; exact hDr.len Try.underlying39 3
          have HB := hb
          have HO := ho
          clear hord hready hw hq hdis hDr hdr HST2 hb ho
          by_cases hlt : out.length < l.length
          · have HE : Hid (ordErr l out = 16 ∧ ordOut l out = []) := Lib.hid ⟨by unfold ordErr; rw [if_pos hlt], by unfold ordOut; rw [if_pos hlt]⟩
            go_wp2_with fail
            go_ret2
            refine ⟨.slice none 0 0, out, HDN.out, by rw [HE.out.1]; rfl, ?_⟩
            rw [HE.out.2]
            exact ⟨none, 0, rfl, own_nil0 _ _ _, fun b hb => by simp [Value.ownBlock] at hb, HB.out⟩
          · have HE : Hid (ordErr l out = 0 ∧ ordOut l out = out) := Lib.hid ⟨by unfold ordErr; rw [if_neg hlt], by unfold ordOut; rw [if_neg hlt]⟩
            go_wp2_with fail
            go_ret2
            refine ⟨.slice Ao out.length co, out, HDN.out, by rw [HE.out.1]; rfl, ?_⟩
            rw [HE.out.2]
            exact ⟨Ao, co, rfl, own_lower HO.out (Nat.zero_le _), fun q hq => own_base HO.out hq, HB.out⟩
        | cons p rest =>
          simp only [List.length_cons] at hrdl ⊢
          have hq2 := hq.out
          simp only [List.length_cons] at hq2
          obtain ⟨ad, hA, hcl⟩ := q_cells hq2 (by omega)
          subst hA
          have hc0 := hcl 0 (.string p) rfl
          have hsp := spot_none hc0
          obtain ⟨bq, oq, hbo⟩ : ∃ bq oq, ad = ⟨bq, oq, none⟩ := ⟨_, _, hsp⟩
          subst hbo
          rw [add_lit0, Nat.add_zero] at hc0
          have hqd := q_drop hq2 (k := 1) (by omega)
          obtain ⟨_, _, hve, hcap⟩ := q_slice hq2
          simp only [Value.slice.injEq] at hve
          have hcap2 : rest.length + 1 ≤ c := by rw [hve.2.2]; exact hcap
          have hcm : c ≤ 9223372036854775807 := by
            rcases hq2.2 with ⟨h0, _⟩ | ⟨_, _, cap, _, he, _, _, _, hm, _⟩
            · omega
            · injection he with _ _ he
              rw [he]
              simp only [maxLen] at hm
              omega
          simp only [Nat.mul_one, Nat.add_sub_cancel, List.drop_one, Option.map_some, add_lit0] at hqd
          have hstr : (strs (p :: rest)).tail = strs rest := rfl
          rw [hstr] at hqd
          have HQD := Lib.hid hqd
          have HQ2 := Lib.hid hq2
          clear hve hcap hq2 hqd hcl hsp hq hstr
          go_upto_region 16 with fail
          go_cut [5] (fun v wx => wx = wr ∧ ∃ A1 c1, v = .slice A1 rest.length c1 ∧ Hid (QRow wr w.heap.size 9 1 (.slice A1 rest.length c1) rest.length (strs rest)) ∧ Hid (∀ q, (Value.slice A1 rest.length c1).ownBlock = some q → q = bq))
          case first =>
            by_cases hc1 : c = 1
            · go_wp2_with fail
              go_meet
              rw [if_pos hc1] at HQD
              refine ⟨rfl, some ⟨bq, oq, none⟩, 0, rfl, ?_, Lib.hid (fun q hq => by simpa [Value.ownBlock] using hq.symm)⟩
              have := HQD.out
              rw [hc1] at this
              exact Lib.hid this
            · go_wp2_with fail
              go_meet
              rw [if_neg hc1] at HQD
              exact ⟨rfl, some ⟨bq, oq + 1, none⟩, c - 1, rfl, HQD, Lib.hid (fun q hq => by simpa [Value.ownBlock] using hq.symm)⟩
          case rest =>
          obtain ⟨rfl, A1, c1, rfl, HQ1, HQB⟩ := hcut
          have HBQ : Hid (w.heap.size ≤ bq ∧ bq < wc.heap.size ∧ (Value.slice Ao out.length co).ownBlock ≠ some bq) := Lib.hid ⟨q_base HQ2.out rfl, q_lt HQ2.out bq rfl, hdis.out bq rfl⟩
          clear HQD hcap2 hcm hc0 HQ2 hdis
          obtain ⟨bk, hbk⟩ : ∃ bk, bk = mgetD (backOf k) p := ⟨_, rfl⟩
          obtain ⟨Ab, cb, hlk, hbo⟩ := HST.out.backLook p
          rw [← hbk] at hlk hbo
          have hbl : bk.length ≤ l.length := by rw [hbk]; exact back_len HPK.out HND.out p
          have hbn : bk.Nodup := by rw [hbk]; exact back_nodup HPK.out HND.out p
          have hbm : ∀ s, s ∈ bk ↔ ∃ x ∈ l, x.f0 = s ∧ p ∈ x.f3 := fun s => by rw [hbk]; exact back_mem HPK.out
          obtain ⟨nb, hnb⟩ : ∃ nb, nb = bk.length := ⟨_, rfl⟩
          rw [← hnb] at hlk hbo hbl
          have HLK := Lib.hid hlk
          have HBO := Lib.hid hbo
          have HBN := Lib.hid (And.intro hbn (And.intro hbm hnb))
          clear hbk hlk hbo hbn hbm hnb
          go_wp2_with (at_builtin
                       refine wpList_app _ rfl (.tmp 61) (.tmp 63) 23 rfl 9 (.string ⟨#[]⟩) 1 16 Try.underlying23 infoStr rfl (by omega) (by omega) (.slice Ao out.length co) out.length (strs out) rfl
                         (own_lower (ho.out.alloc _) (base' := 0) (Nat.zero_le _)) (fun q => q = wc.heap.size) (.slice (some ⟨wc.heap.size, 0, none⟩) 1 1) 1 [.string p] rfl (Sl.one wc 9 _) (by simp [Value.oneCell']) (by omega) ?_
                       intro A8 c8 w8 o8 g8 at8 _
                       have hmm : Mod (fun q => (Value.slice Ao out.length co).ownBlock = some q) wc w8 := ((Mod.refl _ _).alloc _).grown g8 (fun k hk _ => hk)
                       have hb8 : Below w.heap.size w w8 := hb.out.trans (hmm.below hb.out.size (fun q hq => own_base ho.out hq))
                       obtain ⟨k0, k1, k2, k3, k4⟩ := (HST.out.later hb8).cells
                       have klk := HLK.out w8 hb8
                       have HW8 := Lib.hid (And.intro o8 (And.intro at8 (And.intro hmm hb8)))
                       clear o8 g8 at8 hmm hb8)
          have HB8 := Lib.hid HW8.out.2.2.2
          have HM8 : Hid (MapAt KS w8 w.heap.size W ∧ ∀ x ∈ l, mget W x.f0 = some (cntV out x)) := Lib.hid ⟨hw.out.1.mod HW8.out.2.2.1 (fun e => hw.out.1.ne_own ho.out e), hw.out.2⟩
          have HQ8 : Hid (QRow w8 w.heap.size 9 1 (.slice A1 rest.length c1) rest.length (strs rest)) := Lib.hid (q_mod HQ1.out HW8.out.2.2.1 (fun q hq e => HBQ.out.2.2 (by rw [← HQB.out q hq]; exact e)))
          have hsz := hb.out.size
          have HD8 : Hid (∀ q, (Value.slice A1 rest.length c1).ownBlock = some q → (Value.slice A8 (out.length + 1) c8).ownBlock ≠ some q) := Lib.hid (fun q hq e => by
            have e1 := HQB.out q hq
            have h1 := HBQ.out
            rcases HW8.out.2.1 with h | h
            · rw [h] at e; exact h1.2.2 (by rw [← e1]; exact e)
            · rw [h] at e; injection e with e
              simp at e
              omega)
          have HO8 : Hid (w8.ownsRow w.heap.size 9 1 (.slice A8 (out ++ [p]).length c8) (out ++ [p]).length (strs (out ++ [p]))) := by
            have hl2 : (out ++ [p]).length = out.length + 1 := by simp
            rw [hl2, strs_append]
            refine Lib.hid (own_raise HW8.out.1 (fun q hq => ?_))
            rcases HW8.out.2.1 with h | h
            · rw [h] at hq; exact own_base ho.out hq
            · rw [h] at hq; injection hq with hq; simp at hq; omega
          clear klk k0 k1 k2 k3 k4 q0 q1 q2 q3 q4 HW8 HQ1 hw ho hb HST2
          have hl2 : out.length + 1 = (out ++ [p]).length := by simp
          rw [hl2] at HD8 ⊢
          have HORD := Lib.hid (Ord.snoc hord.out hready.out.symm)
          have hrise : Rising (p :: rest) := by rw [hready.out]; exact readyL_rising _ _
          have HRR := Lib.hid (List.pairwise_cons.1 hrise).2
          have hol2 := HORD.out.len
          have hpo : p ∉ out := by
            obtain ⟨_, _, _, h, _⟩ := readyL_mem.1 (show p ∈ readyL l out by rw [← hready.out]; exact List.mem_cons_self)
            exact h
          have HPO := Lib.hid hpo
          have HREST := Lib.hid (show ∀ s ∈ rest, s ∈ readyL l out from fun s hs => by rw [← hready.out]; exact List.mem_cons_of_mem _ hs)
          obtain ⟨out2, hout2⟩ : ∃ out2, out2 = out ++ [p] := ⟨_, rfl⟩
          rw [← hout2] at HD8 HO8 HORD hol2 hl2 ⊢
          have HOUT := Lib.hid hout2
          have HOL := Lib.hid hl2
          have HOL2 := Lib.hid hol2
          clear hrise hpo hout2 hl2 hol2
          go_loopg [5, 72] nb (fun kq rv iv wr => ∃ (i : Nat) (ready : List ByteArray) (A : Option Addr) (c : Nat) (W : List (ByteArray × Value)), rv = .slice A ready.length c ∧ iv = .int .i64 i ∧ i ≤ nb ∧ kq = nb - i ∧ Hid (Below w.heap.size w wr) ∧
            Hid (MapAt KS wr w.heap.size W ∧ ∀ x ∈ l, mget W x.f0 = some (wantV (bk.take i) p out out2 x)) ∧
            Hid (QRow wr w.heap.size 9 1 (.slice A ready.length c) ready.length (strs ready)) ∧ Hid (wr.ownsRow w.heap.size 9 1 (.slice A8 out2.length c8) out2.length (strs out2)) ∧ Hid (∀ q, (Value.slice A ready.length c).ownBlock = some q → (Value.slice A8 out2.length c8).ownBlock ≠ some q) ∧
            Hid (Rising ready ∧ ∀ s, s ∈ ready ↔ s ∈ rest ∨ ∃ x ∈ l, x.f0 = s ∧ s ∈ bk.take i ∧ s ≠ p ∧ cnt out2 x = 0) ∧ ready.length ≤ l.length)
          case atStart => exact ⟨0, rest, A1, c1, W, rfl, rfl, Nat.zero_le _, rfl, HB8, Lib.hid ⟨HM8.out.1, fun x hx => by rw [HM8.out.2 x hx, wantV_neg (by simp)]⟩, HQ8, HO8, HD8, Lib.hid ⟨HRR.out, by simp⟩, by omega⟩
          case round =>
            clear HB8 HM8 HQ8 HO8 HD8
            obtain ⟨i, ready, A, c, W, rfl, rfl, hi, rfl, hb, hw, hq, ho, hdis, hrd, hrl⟩ := hrel
            by_cases hlt : i < nb
            · obtain ⟨s0, hs0⟩ : ∃ s0, bk[i]? = some s0 := ⟨_, List.getElem?_eq_getElem (by rw [← HBN.out.2.2]; exact hlt)⟩
              obtain ⟨x0, hx0, hxs, hpx⟩ := (HBN.out.2.1 s0).1 (List.mem_of_getElem? hs0)
              subst hxs
              have HBO2 := Lib.hid (own_below HBO.out hb.out)
              obtain ⟨bb, capb, hve, _, _⟩ := HBO2.out.form (by omega)
              simp only [Value.slice.injEq] at hve
              obtain ⟨rfl, _, rfl⟩ := hve
              have hc0 : wr.cell? ⟨bb, i, none⟩ = some (.string x0.f0) := by
                have := HBO2.out.cells rfl i _ (strs_get hs0)
                rwa [add_lit0, Nat.zero_add] at this
              obtain ⟨hil, hge⟩ := List.getElem?_eq_some_iff.1 hs0
              have htake : bk.take (i + 1) = bk.take i ++ [x0.f0] := by rw [List.take_succ_eq_append_getElem hil, hge]
              have hnin : x0.f0 ∉ bk.take i := by
                have h := HBN.out.1
                rw [← List.take_append_drop (i + 1) bk, htake] at h
                have h2 := (List.nodup_append.1 h).1
                intro hm
                exact (List.nodup_append.1 h2).2.2 _ hm _ (List.mem_singleton.2 rfl) rfl
              have HTK := Lib.hid htake
              have HNI := Lib.hid hnin
              have HX0 := Lib.hid hx0
              have HPX := Lib.hid hpx
              have hbb : bb < wr.heap.size := own_lt' HBO2.out rfl
              clear htake hnin hx0 hpx hs0 hge hil
              by_cases hsp : x0.f0 = p
              · -- the path itself
                have heq : (x0.f0.toList == p.toList) = true := by rw [hsp]; exact beq_self_eq_true _
                have hst : ∀ s, s ≠ p → (s ∈ bk.take (i + 1) ↔ s ∈ bk.take i) := fun s hs => by
                  rw [HTK.out, List.mem_append, List.mem_singleton, hsp]
                  exact ⟨fun h => h.elim id (fun h => absurd h hs), .inl⟩
                have HW2 : Hid (MapAt KS wr w.heap.size W ∧ ∀ x ∈ l, mget W x.f0 = some (wantV (bk.take (i + 1)) p out out2 x)) := Lib.hid ⟨hw.out.1, fun x hx => by
                  rw [hw.out.2 x hx]
                  exact congrArg some (wantV_congr fun hxp => (hst _ hxp).symm)⟩
                have HRD2 : Hid (Rising ready ∧ ∀ s, s ∈ ready ↔ s ∈ rest ∨ ∃ x ∈ l, x.f0 = s ∧ s ∈ bk.take (i + 1) ∧ s ≠ p ∧ cnt out2 x = 0) := Lib.hid ⟨hrd.out.1, fun s => by
                  rw [hrd.out.2 s]
                  refine or_congr Iff.rfl ⟨?_, ?_⟩
                  · rintro ⟨x, h1, h2, h3, h4, h5⟩; exact ⟨x, h1, h2, (hst s h4).2 h3, h4, h5⟩
                  · rintro ⟨x, h1, h2, h3, h4, h5⟩; exact ⟨x, h1, h2, (hst s h4).1 h3, h4, h5⟩⟩
                clear hsp hst hw hrd
                go_wp2_with fail
                go_roundg (nb - (i + 1))
                case measure => omega
                case rel => exact ⟨i + 1, ready, A, c, W, rfl, by go_num, by omega, rfl, hb, HW2, hq, ho, hdis, HRD2, hrl⟩
              · have hne : (x0.f0.toList == p.toList) = false := by
                  cases e : (x0.f0.toList == p.toList) with
                  | false => rfl
                  | true => exact (hsp (str_eq.1 (eq_of_beq e))).elim
                obtain ⟨c0, hc00⟩ : ∃ c0, c0 = cnt out2 x0 := ⟨_, rfl⟩
                have hcs : cnt out x0 = c0 + 1 := by
                  rw [hc00, HOUT.out]
                  exact cnt_snoc_in HPX.out (fun e => hsp e.symm) HPO.out
                have hc1000 := Nat.le_trans (cnt_le out x0) (HR.out x0 HX0.out)
                rw [hcs] at hc1000
                have hget := hw.out.2 x0 HX0.out
                rw [wantV_neg (fun h => (HNI.out h).elim)] at hget
                simp only [cntV, hcs] at hget
                have hlk1 := hw.out.1.lookup_some (mt := 64) Try.underlying64 hget false
                have hlk1 : (Instr.lookup 64 (.map (some w.heap.size)) (.string x0.f0) false).run Try.prog wr = .ok (.int .i64 ((c0 + 1 : Nat) : Int)) wr := hlk1
                have hwr1 : IntKind.i64.wrap (((c0 + 1 : Nat) : Int) - 1) = (c0 : Int) := by rw [IntKind.wrap_i64]; omega
                obtain ⟨w3, hput, hmap3, hmod3⟩ := hw.out.1.put (mt := 64) Try.underlying64 x0.f0 (.int .i64 (c0 : Int))
                have hput : (Instr.mapUpdate 64 (.map (some w.heap.size)) (.string x0.f0) (.int .i64 (c0 : Int))).run Try.prog wr = .ok () w3 := hput
                have hget3 : mget (mput W x0.f0 (.int .i64 (c0 : Int))) x0.f0 = some (.int .i64 (c0 : Int)) := by rw [mget_mput, if_pos rfl]
                have hlk2 := hmap3.lookup_some (mt := 64) Try.underlying64 hget3 false
                have hlk2 : (Instr.lookup 64 (.map (some w.heap.size)) (.string x0.f0) false).run Try.prog w3 = .ok (.int .i64 (c0 : Int)) w3 := hlk2
                have hb3 : Below w.heap.size w w3 := hb.out.trans (hmod3.below hb.out.size (fun q hq => by omega))
                have HW3 : Hid (MapAt KS w3 w.heap.size (mput W x0.f0 (.int .i64 (c0 : Int))) ∧ ∀ x ∈ l, mget (mput W x0.f0 (.int .i64 (c0 : Int))) x.f0 = some (wantV (bk.take (i + 1)) p out out2 x)) := Lib.hid ⟨hmap3, fun x hx => by
                  rw [mget_mput]
                  by_cases hxx : x.f0 = x0.f0
                  · have : x = x0 := map_inj_nodup (·.f0) HND.out x hx x0 HX0.out hxx
                    subst this
                    rw [if_pos rfl, wantV_pos (by rw [HTK.out]; exact List.mem_append_right _ (List.mem_singleton.2 rfl)) hsp, hc00]
                  · rw [if_neg hxx, hw.out.2 x hx]
                    have : x.f0 ∈ bk.take (i + 1) ↔ x.f0 ∈ bk.take i := by
                      rw [HTK.out, List.mem_append, List.mem_singleton]
                      exact ⟨fun h => h.elim id (fun h => absurd h hxx), .inl⟩
                    exact congrArg some (wantV_congr fun _ => this.symm)⟩
                have HQ3 : Hid (QRow w3 w.heap.size 9 1 (.slice A ready.length c) ready.length (strs ready)) := Lib.hid (q_mod hq.out hmod3 (fun q hq2 e => hw.out.1.ne_q hq.out (by rw [hq2, e])))
                have HO3 : Hid (w3.ownsRow w.heap.size 9 1 (.slice A8 out2.length c8) out2.length (strs out2)) := Lib.hid (own_mod ho.out hmod3 (fun q hq2 e => hw.out.1.ne_own ho.out (by rw [hq2, e])))
                have HB3 := Lib.hid hb3
                have HCS := Lib.hid hcs
                have HC0 := Lib.hid hc00
                have hnrd : x0.f0 ∉ ready := by
                  intro h
                  rcases (hrd.out.2 _).1 h with h | ⟨x, h1, h2, h3, _⟩
                  · obtain ⟨x, h1, h2, h3, h4⟩ := readyL_mem.1 (HREST.out _ h)
                    have : x = x0 := map_inj_nodup (·.f0) HND.out x h1 x0 HX0.out h2
                    subst this
                    have := cnt_zero.2 h4
                    omega
                  · exact HNI.out h3
                have HNR := Lib.hid hnrd
                have HSP := Lib.hid hsp
                clear hw hq ho hget hget3 hmap3 hmod3 hb3 hcs hc00 hnrd hsp hb
                by_cases hz : c0 = 0
                · -- it waits for nothing more
                  subst hz
                  obtain ⟨kk, hk1, hk2, hk3⟩ := ins_at hrd.out.1 x0.f0
                  have HRI := Lib.hid (ins_rising hrd.out.1 hk1 hk2 hk3 HNR.out)
                  have HSE := Lib.hid (q_search w3 w.heap.size A ready.length c ready x0.f0 HQ3.out kk (by omega) hk2 hk3 hk1)
                  have HKK := Lib.hid hk1
                  have hrl2 : ready.length + 1 ≤ l.length := by
                    have hnd : (x0.f0 :: ready).Nodup := List.nodup_cons.2 ⟨HNR.out, hrd.out.1.nodup⟩
                    have := hnd.length_le_of_subset (l₂ := l.map (·.f0)) (fun s hs => by
                      rcases List.mem_cons.1 hs with rfl | hs
                      · exact List.mem_map.2 ⟨x0, HX0.out, rfl⟩
                      · rcases (hrd.out.2 s).1 hs with h | ⟨x, h1, h2, _⟩
                        · obtain ⟨x, h1, h2, _⟩ := readyL_mem.1 (HREST.out _ h)
                          exact List.mem_map.2 ⟨x, h1, h2⟩
                        · exact List.mem_map.2 ⟨x, h1, h2⟩)
                    simpa using this
                  have HRD2 : Hid (∀ s, s ∈ ready.take kk ++ x0.f0 :: ready.drop kk ↔ s ∈ rest ∨ ∃ x ∈ l, x.f0 = s ∧ s ∈ bk.take (i + 1) ∧ s ≠ p ∧ cnt out2 x = 0) := Lib.hid fun s => by
                    rw [ins_mem, hrd.out.2 s, HTK.out]
                    constructor
                    · rintro (rfl | h | ⟨x, h1, h2, h3, h4, h5⟩)
                      · exact .inr ⟨x0, HX0.out, rfl, List.mem_append_right _ (List.mem_singleton.2 rfl), HSP.out, HC0.out.symm⟩
                      · exact .inl h
                      · exact .inr ⟨x, h1, h2, List.mem_append_left _ h3, h4, h5⟩
                    · rintro (h | ⟨x, h1, h2, h3, h4, h5⟩)
                      · exact .inr (.inl h)
                      · rcases List.mem_append.1 h3 with h3 | h3
                        · exact .inr (.inr ⟨x, h1, h2, h3, h4, h5⟩)
                        · exact .inl (List.mem_singleton.1 h3)
                  have hlk1 : (Instr.lookup 64 (.map (some w.heap.size)) (.string x0.f0) false).run Try.prog wr = .ok (.int .i64 1) wr := hlk1
                  have hput : (Instr.mapUpdate 64 (.map (some w.heap.size)) (.string x0.f0) (.int .i64 0)).run Try.prog wr = .ok () w3 := hput
                  have hlk2 : (Instr.lookup 64 (.map (some w.heap.size)) (.string x0.f0) false).run Try.prog w3 = .ok (.int .i64 0) w3 := hlk2
                  clear hk1 hk2 hk3 hrd hwr1
                  go_wp2_with fail
                  refine HSE.out.mono ?_
                  rintro e_ w4 ⟨bf, rfl, qn, rfl⟩
                  go_wp2_with fail
                  refine (q_insert ((w3.drewN qn).alloc (.cells #[.string x0.f0] 9)) w.heap.size A ready.length c kk (w3.drewN qn).heap.size ready x0.f0 (q_move HQ3.out (fun q hq => ?_)) (Blk.new _ _ _) (fun q hq e => ?_) HKK.out (by omega) ?_).mono ?_
                  · have := q_lt HQ3.out q hq
                    exact (Below.heap_alloc (w3.drewN qn) _ q this)
                  · have := q_lt HQ3.out q hq
                    rw [e] at this
                    exact absurd this (Nat.lt_irrefl _)
                  · have h1 := HB3.out.size
                    rw [World.size_alloc]
                    have h2 : (w3.drewN qn).heap.size = w3.heap.size := rfl
                    omega
                  rintro e_ w5 ⟨A5, c5, rfl, hq5, hm5, hat5⟩
                  have hl5 : (ready.take kk ++ x0.f0 :: ready.drop kk).length = ready.length + 1 := by
                    have := HKK.out
                    simp
                    omega
                  have hm35 : Mod (fun q => (Value.slice A ready.length c).ownBlock = some q) w3 w5 := (((Mod.refl _ w3).drewN qn).alloc _).trans hm5 (fun _ _ h => h)
                  have hsz3 : w3.heap.size ≤ ((w3.drewN qn).alloc (.cells #[.string x0.f0] 9)).heap.size := by rw [World.size_alloc]; exact Nat.le_succ _
                  have HB5 : Hid (Below w.heap.size w w5) := Lib.hid (HB3.out.trans (hm35.below HB3.out.size (fun q hq => q_base HQ3.out hq)))
                  have HW5 : Hid (MapAt KS w5 w.heap.size (mput W x0.f0 (.int .i64 ((0 : Nat) : Int))) ∧ ∀ x ∈ l, mget (mput W x0.f0 (.int .i64 ((0 : Nat) : Int))) x.f0 = some (wantV (bk.take (i + 1)) p out out2 x)) := Lib.hid ⟨HW3.out.1.mod hm35 (fun e => HW3.out.1.ne_q HQ3.out e), HW3.out.2⟩
                  have HO5 : Hid (w5.ownsRow w.heap.size 9 1 (.slice A8 out2.length c8) out2.length (strs out2)) := Lib.hid (own_mod HO3.out hm35 (fun q hq e => hdis.out q e hq))
                  have HD5 : Hid (∀ q, (Value.slice A5 (ready.length + 1) c5).ownBlock = some q → (Value.slice A8 out2.length c8).ownBlock ≠ some q) := Lib.hid (fun q hq e => by
                    rcases hat5 q hq with h | h
                    · exact hdis.out q h e
                    · have := own_lt' HO3.out e
                      omega)
                  have HQ5 := Lib.hid hq5
                  clear hq5 hm5 hat5 hm35 HW3 HO3 HQ3 hdis
                  rw [← hl5] at HQ5 HD5 ⊢
                  go_wp2_with fail
                  go_roundg (nb - (i + 1))
                  case measure => omega
                  case rel => exact ⟨i + 1, _, A5, c5, _, by rw [hl5], by go_num, by omega, rfl, HB5, HW5, HQ5, HO5, HD5, Lib.hid ⟨HRI.out, HRD2.out⟩, by rw [hl5]; exact hrl2⟩
                · have hz2 : ¬ ((c0 : Int) = 0) := by omega
                  have HRD2 : Hid (Rising ready ∧ ∀ s, s ∈ ready ↔ s ∈ rest ∨ ∃ x ∈ l, x.f0 = s ∧ s ∈ bk.take (i + 1) ∧ s ≠ p ∧ cnt out2 x = 0) := Lib.hid ⟨hrd.out.1, fun s => by
                    rw [hrd.out.2 s]
                    refine or_congr Iff.rfl ⟨?_, ?_⟩
                    · rintro ⟨x, h1, h2, h3, h4, h5⟩; exact ⟨x, h1, h2, by rw [HTK.out]; exact List.mem_append_left _ h3, h4, h5⟩
                    · rintro ⟨x, h1, h2, h3, h4, h5⟩
                      refine ⟨x, h1, h2, ?_, h4, h5⟩
                      rw [HTK.out, List.mem_append, List.mem_singleton] at h3
                      refine h3.elim id (fun h => ?_)
                      have : x = x0 := map_inj_nodup (·.f0) HND.out x h1 x0 HX0.out (h2.trans h)
                      subst this
                      rw [← HC0.out] at h5
                      exact (hz h5).elim⟩
                  go_wp2_with fail
                  go_roundg (nb - (i + 1))
                  case measure => omega
                  case rel => exact ⟨i + 1, ready, A, c, _, rfl, by go_num, by omega, rfl, HB3, HW3, HQ3, HO3, hdis, HRD2, hrl⟩
            · obtain rfl : i = nb := by omega
              have hall : bk.take i = bk := List.take_of_length_le (by rw [← HBN.out.2.2]; exact Nat.le_refl _)
              have hrn : ready = readyL l out2 := by
                rw [HOUT.out]
                refine ready_next HND.out hord.out hready.out.symm hrd.out.1 (fun s => ?_)
                rw [hrd.out.2 s, hall]
                refine or_congr Iff.rfl ⟨?_, ?_⟩
                · rintro ⟨x, h1, h2, h3, h4, h5⟩
                  obtain ⟨y, k1, k2, k3⟩ := (HBN.out.2.1 s).1 h3
                  have : y = x := map_inj_nodup (·.f0) HND.out y k1 x h1 (k2.trans h2.symm)
                  subst this
                  exact ⟨y, h1, h2, k3, h4, by rw [← HOUT.out]; exact h5⟩
                · rintro ⟨x, h1, h2, h3, h4, h5⟩
                  exact ⟨x, h1, h2, (HBN.out.2.1 s).2 ⟨x, h1, h2, h3⟩, h4, by rw [HOUT.out]; exact h5⟩
              have HW2 : Hid (MapAt KS wr w.heap.size W ∧ ∀ x ∈ l, mget W x.f0 = some (cntV out2 x)) := Lib.hid ⟨hw.out.1, fun x hx => by
                rw [hw.out.2 x hx, hall]
                by_cases h : x.f0 ∈ bk ∧ x.f0 ≠ p
                · rw [wantV_pos h.1 h.2]
                · rw [wantV_neg (fun h2 => Classical.byContradiction fun h3 => h ⟨h2, h3⟩), HOUT.out]
                  have : cnt (out ++ [p]) x = cnt out x := cnt_snoc_out (by
                    by_cases h2 : p ∈ x.f3
                    · by_cases h3 : x.f0 = p
                      · exact .inr h3.symm
                      · exact (h ⟨(HBN.out.2.1 _).2 ⟨x, hx, rfl, h2⟩, h3⟩).elim
                    · exact .inl h2)
                  simp only [cntV, this]⟩
              have HRN := Lib.hid hrn
              clear hall hrn hw hrd
              go_wp2_with fail
              go_roundg (l.length + 1 - out2.length)
              case measure => have h1 := HOL.out; have h2 := HOL2.out; omega
              case rel => exact ⟨out2, ready, A, c, A8, c8, W, rfl, rfl, rfl, HOL2.out, HORD, HRN, hb, HW2, hq, ho, hdis⟩
    · obtain ⟨p, vx⟩ := x
      have kp : KS.key p = .string p := rfl
      simp only [kp] at hnx hen
      have hd1 : done.length + 1 ≤ D1.length := by have := hi2.len; simpa using this
      have hmb : Below w.heap.size wr w2 := hmod.below hb.out.size (fun q hq => by rw [hq]; exact HIT.out)
      have hb2 : Below w.heap.size w w2 := hb.out.trans hmb
      have ho2 := own_mod ho.out hmod (fun q hq e => hi.out.ne_own ho.out (by rw [hq, e]))
      have hm2 := hw.out.1.mod hmod HWI.out.1
      have hst2 := HST.out.later hb2
      obtain ⟨A3, c3, hvx, _⟩ := (hst2.rows hi2.map).2.2 (p, vx) hxD
      have hvx : vx = .slice A3 (mgetD (M1f l l.length) p).length c3 := hvx
      obtain ⟨x0, hx0, hxp⟩ := M1f_D HKE.out hxD
      subst hxp
      have hmg : mgetD (M1f l l.length) x0.f0 = SU x0.f3 := by unfold mgetD; rw [M1f_get HND.out hx0]; rfl
      rw [hmg] at hvx
      subst hvx
      obtain ⟨n3, hn3⟩ : ∃ n3, n3 = (SU x0.f3).length := ⟨_, rfl⟩
      rw [← hn3] at hen
      have hn3l : n3 ≤ 1000 := by rw [hn3]; exact Nat.le_trans (SU_le _) (HR.out x0 hx0)
      have hnew : x0.f0 ∉ done.map (·.1) := by
        have h := Iter.dnodup hi2
        rw [List.map_append] at h
        intro hm
        exact (List.nodup_append.1 h).2.2 _ hm _ (List.mem_singleton.2 rfl) rfl
      have hgn : mget W x0.f0 = none := mget_none.2 (by rw [hw.out.2.1]; exact hnew)
      obtain ⟨w3, hput, hmap3, hmod3⟩ := hm2.put (mt := 64) Try.underlying64 x0.f0 (.int .i64 (n3 : Int))
      have hput : (Instr.mapUpdate 64 (.map (some w.heap.size)) (.string x0.f0) (.int .i64 (n3 : Int))).run Try.prog w2 = .ok () w3 := hput
      have hb3 : Below w.heap.size w w3 := hb2.trans (hmod3.below hb2.size (fun q hq => by omega))
      have hst3 := HST.out.later hb3
      obtain ⟨q0, q1, q2, q3, q4⟩ := hst3.cells
      have hedge := hst3.edgeLook HPK.out HND.out hx0 x0.f0
      have ho3 := own_mod ho2 hmod3 (fun q hq e => hm2.ne_own ho2 (by rw [hq, e]))
      have hi3 := hi2.mod hmod3 (fun e => HWI.out.2 e.symm) (fun e => HWI.out.1 e.symm)
      obtain ⟨c0, hc0⟩ : ∃ c0, c0 = cnt [] x0 := ⟨_, rfl⟩
      obtain ⟨b0, hb0⟩ : ∃ b0, b0 = inB x0.f3 x0.f0 := ⟨_, rfl⟩
      rw [← hb0] at hedge
      have hc1000 : c0 ≤ 1000 := by rw [hc0]; exact Nat.le_trans (cnt_le _ _) (HR.out x0 hx0)
      have HN3 := Lib.hid hn3
      have HC0 := Lib.hid hc0
      have HBB := Lib.hid hb0
      have HX0 := Lib.hid hx0
      have HI3 := Lib.hid hi3
      have HO3 := Lib.hid ho3
      have HB3 := Lib.hid hb3
      have HM3 := Lib.hid hmap3
      have HW2 := Lib.hid hw.out.2
      have HNW := Lib.hid hnew
      clear kp hi2 hmb hb2 ho2 hm2 hst2 hxD hmod hmg hmap3 hmod3 hb3 hst3 ho3 hi3 hi hw ho hb hn3 hc0 hb0 hx0 hgn hnew
      go_upto_if 38 with fail
      go_cut [] (fun wx => ∃ W3, Mod (fun q => q = w.heap.size) w3 wx ∧ MapAt KS wx w.heap.size (mput W3 x0.f0 (.int .i64 (c0 : Int))) ∧ (W3 = W ∨ ∃ v, W3 = mput W x0.f0 v))
      case first =>
        cases b0 with
        | true =>
          have hcn : n3 = c0 + 1 := by
            rw [HN3.out, HC0.out]
            exact cnt_nil_in (inB_iff.1 HBB.out.symm)
          have hget3 : mget (mput W x0.f0 (.int .i64 (n3 : Int))) x0.f0 = some (.int .i64 (n3 : Int)) := by rw [mget_mput, if_pos rfl]
          have hlk2 := HM3.out.lookup_some (mt := 64) Try.underlying64 hget3 false
          have hlk2 : (Instr.lookup 64 (.map (some w.heap.size)) (.string x0.f0) false).run Try.prog w3 = .ok (.int .i64 (n3 : Int)) w3 := hlk2
          have hwr1 : IntKind.i64.wrap ((n3 : Int) - 1) = (c0 : Int) := by rw [IntKind.wrap_i64]; omega
          obtain ⟨w4, hput4, hmap4, hmod4⟩ := HM3.out.put (mt := 64) Try.underlying64 x0.f0 (.int .i64 (c0 : Int))
          have hput4 : (Instr.mapUpdate 64 (.map (some w.heap.size)) (.string x0.f0) (.int .i64 (c0 : Int))).run Try.prog w3 = .ok () w4 := hput4
          have HM4 := Lib.hid (And.intro hmap4 hmod4)
          clear hcn hget3 hmap4 hmod4
          go_wp2_with fail
          go_meet
          exact ⟨_, HM4.out.2, HM4.out.1, .inr ⟨_, rfl⟩⟩
        | false =>
          have hcn : n3 = c0 := by
            rw [HN3.out, HC0.out]
            refine cnt_nil_out fun h => ?_
            have := HBB.out
            rw [inB_iff.2 h] at this
            cases this
          have HCN := Lib.hid hcn
          clear hcn
          go_wp2_with fail
          go_meet
          exact ⟨W, Mod.refl _ _, by rw [← HCN.out]; exact HM3.out, .inl rfl⟩
      case rest =>
        obtain ⟨W3, hmod4, hmap4, hW3⟩ := hcut
        have hgt : ∀ a, a ≠ x0.f0 → mget (mput W3 x0.f0 (.int .i64 (c0 : Int))) a = mget W a := by
          intro a ha
          rw [mget_mput, if_neg ha]
          rcases hW3 with rfl | ⟨v, rfl⟩
          · rfl
          · rw [mget_mput, if_neg ha]
        have hkeys : (mput W3 x0.f0 (.int .i64 (c0 : Int))).map (·.1) = (done ++ [(x0.f0, Value.slice A3 n3 c3)]).map (·.1) := by
          have hgn : mget W x0.f0 = none := mget_none.2 (by rw [HW2.out.1]; exact HNW.out)
          rw [List.map_append, ← HW2.out.1]
          rcases hW3 with rfl | ⟨v, rfl⟩
          · rw [mput_new hgn, List.map_append]; rfl
          · rw [mput_keys (v0 := v) (by rw [mget_mput, if_pos rfl]), mput_new hgn, List.map_append]; rfl
        have HW4 : Hid (MapAt KS wc w.heap.size (mput W3 x0.f0 (.int .i64 (c0 : Int))) ∧ Wants l ((done ++ [(x0.f0, Value.slice A3 n3 c3)]).map (·.1)) (mput W3 x0.f0 (.int .i64 (c0 : Int)))) := Lib.hid ⟨hmap4, hkeys, fun x hx hxm => by
          by_cases e : x.f0 = x0.f0
          · have : x = x0 := map_inj_nodup (·.f0) HND.out x hx x0 HX0.out e
            subst this
            rw [mget_mput, if_pos rfl, HC0.out]
          · rw [hgt _ e]
            refine HW2.out.2 x hx ?_
            rw [List.map_append, List.mem_append] at hxm
            exact hxm.elim id (fun h => absurd (List.mem_singleton.1 h) e)⟩
        have hget4 : mget (mput W3 x0.f0 (.int .i64 (c0 : Int))) x0.f0 = some (.int .i64 (c0 : Int)) := by rw [mget_mput, if_pos rfl]
        have hlk4 := hmap4.lookup_some (mt := 64) Try.underlying64 hget4 false
        have hlk4 : (Instr.lookup 64 (.map (some w.heap.size)) (.string x0.f0) false).run Try.prog wc = .ok (.int .i64 (c0 : Int)) wc := hlk4
        have HI4 := Lib.hid (HI3.out.mod hmod4 (fun e => HWI.out.2 e.symm) (fun e => HWI.out.1 e.symm))
        have HO4 := Lib.hid (own_mod HO3.out hmod4 (fun q hq e => HM3.out.ne_own HO3.out (by rw [hq, e])))
        have HB4 : Hid (Below w.heap.size w wc) := Lib.hid (HB3.out.trans (hmod4.below HB3.out.size (fun q hq => by omega)))
        have hdn1 : (done ++ [(x0.f0, Value.slice A3 n3 c3)]).length = done.length + 1 := by simp
        have HDN1 := Lib.hid hdn1
        rw [HN3.out] at HW4 HDN1
        clear hgt hkeys hget4 hmod4 hmap4 hW3 hdn1
        by_cases hz : c0 = 0
        · have HMEM : Hid ((rd ++ [x0.f0]).Nodup ∧ ∀ s, s ∈ rd ++ [x0.f0] ↔ s ∈ (done ++ [(x0.f0, Value.slice A3 (SU x0.f3).length c3)]).map (·.1) ∧ ∃ x ∈ l, x.f0 = s ∧ cnt [] x = 0) := by
            refine Lib.hid ⟨?_, fun s => ?_⟩
            · rw [List.nodup_append]
              refine ⟨hmem.out.1, by simp, fun a ha b hb => ?_⟩
              rw [List.mem_singleton] at hb
              subst hb
              rintro rfl
              exact HNW.out ((hmem.out.2 _).1 ha).1
            · rw [List.mem_append, hmem.out.2 s, List.map_append, List.mem_append, List.mem_singleton]
              simp only [List.map_cons, List.map_nil, List.mem_singleton]
              constructor
              · rintro (⟨h1, h2⟩ | rfl)
                · exact ⟨.inl h1, h2⟩
                · exact ⟨.inr rfl, x0, HX0.out, rfl, by rw [← HC0.out]; exact hz⟩
              · rintro ⟨h1 | h1, h2⟩
                · exact .inl ⟨h1, h2⟩
                · exact .inr h1
          subst hz
          clear hmem
          go_wp2_with (at_builtin
                       refine wpList_app _ rfl (.tmp 47) (.tmp 49) 23 rfl 9 (.string ⟨#[]⟩) 1 16 Try.underlying23 infoStr rfl (by omega) (by omega) (.slice A rd.length c) rd.length (strs rd) rfl
                         (own_lower (HO4.out.alloc _) (base' := 0) (Nat.zero_le _)) (fun q => q = wc.heap.size) (.slice (some ⟨wc.heap.size, 0, none⟩) 1 1) 1 [.string x0.f0] rfl (Sl.one wc 9 _) (by simp [Value.oneCell']) (by omega) ?_
                       intro A8 c8 w8 o8 g8 at8 _
                       have HW8 := Lib.hid (And.intro o8 (And.intro g8 at8))
                       clear o8 g8 at8)
          go_roundg (D1.length + 1 - (done.length + 1))
          case measure => omega
          case rel =>
            obtain ⟨k1, k2, k3⟩ := HW8.out
            have hmm : Mod (fun b => (Value.slice A rd.length c).ownBlock = some b) wc w8 := ((Mod.refl _ _).alloc _).grown k2 (fun k hk _ => hk)
            have hon : (rd ++ [x0.f0]).length = rd.length + 1 := by simp
            refine ⟨done ++ [(x0.f0, _)], rd ++ [x0.f0], A8, c8, mput W3 x0.f0 (.int .i64 ((0 : Nat) : Int)), by rw [hon], by rw [HDN1.out, hon]; omega, by rw [HDN1.out]; omega, by rw [HDN1.out], ?_, ?_, ?_, ?_, HMEM⟩
            · exact HI4.out.mod hmm (fun e => HI4.out.map.ne_own HO4.out e) (fun e => HI4.out.ne_own HO4.out e)
            · exact Lib.hid ⟨HW4.out.1.mod hmm (fun e => HW4.out.1.ne_own HO4.out e), HW4.out.2⟩
            · rw [hon, strs_append]
              refine Lib.hid (own_raise k1 (fun q hq => ?_))
              have hsz := HB4.out.size
              rcases k3 with h | h
              · rw [h] at hq; exact own_base HO4.out hq
              · rw [h] at hq; injection hq with hq; simp at hq; omega
            · exact Lib.hid (HB4.out.trans (hmm.below HB4.out.size (fun i hi => own_base HO4.out hi)))
        · have hz2 : ¬ ((c0 : Int) = 0) := by omega
          have HMEM : Hid (rd.Nodup ∧ ∀ s, s ∈ rd ↔ s ∈ (done ++ [(x0.f0, Value.slice A3 (SU x0.f3).length c3)]).map (·.1) ∧ ∃ x ∈ l, x.f0 = s ∧ cnt [] x = 0) := by
            refine Lib.hid ⟨hmem.out.1, fun s => ?_⟩
            rw [hmem.out.2 s, List.map_append, List.mem_append]
            simp only [List.map_cons, List.map_nil, List.mem_singleton]
            constructor
            · rintro ⟨h1, h2⟩
              exact ⟨.inl h1, h2⟩
            · rintro ⟨h1 | h1, x, h2, h3, h4⟩
              · exact ⟨h1, x, h2, h3, h4⟩
              · have : x = x0 := map_inj_nodup (·.f0) HND.out x h2 x0 HX0.out (h3.trans h1)
                subst this
                rw [← HC0.out] at h4
                exact (hz h4).elim
          go_wp2_with fail
          go_roundg (D1.length + 1 - (done.length + 1))
          case measure => omega
          case rel => exact ⟨done ++ [(x0.f0, _)], rd, A, c, _, rfl, by rw [HDN1.out]; omega, by rw [HDN1.out]; omega, by rw [HDN1.out], HI4, HW4, HO4, HB4, HMEM⟩
end Go.Proofs.Ytcffmpjdonncgaa
