/- Contracts of package wal: Commit. -/
import Derived.Test.YtjdobjcbmmdjeaaW10
import Derived.Lib.SlBytesConst
namespace Go.Proofs.Ytjdobjcbmmdjeaa
open Go.RowKit

def magic : List UInt8 := [115, 116, 105, 108, 108, 119, 97, 108]
/-- a header of n numbers, of which these stand already -/
def hdrAt (n : Nat) (l : List Int) : List UInt8 := magic ++ bytesOf n ++ l.flatMap fun x => bytesOf x.toNat
theorem hdrAt_length (n : Nat) (l : List Int) : (hdrAt n l).length = 16 + 8 * l.length := by
  unfold hdrAt
  rw [List.length_append, List.length_append, bytesOf_length]
  have : (l.flatMap fun x => bytesOf x.toNat).length = 8 * l.length := by
    induction l with
    | nil => rfl
    | cons a l ih => rw [List.flatMap_cons, List.length_append, bytesOf_length, ih, List.length_cons]; omega
  rw [this]
  rfl
theorem hdrAt_snoc (n : Nat) (l : List Int) (x : Int) : hdrAt n (l ++ [x]) = hdrAt n l ++ bytesOf x.toNat := by
  unfold hdrAt
  rw [List.flatMap_append, List.append_assoc]
  simp
def header (l : List Int) : List UInt8 := hdrAt l.length l ++ List.replicate (256 - (16 + 8 * l.length)) 0
theorem header_length {l : List Int} (h : l.length ≤ 30) : (header l).length = 256 := by
  unfold header
  rw [List.length_append, hdrAt_length, List.length_replicate]; omega
/-- the sectors that are put, the first i of them in the journal -/
def cmI (S : Dsk) (at_ : Nat) (P : List (Int × List UInt8)) (l : List Int) : Nat → Dsk
  | 0 => S
  | i + 1 => match (l[i]?).bind (mget P) with
    | some b => writeD (cmI S at_ P l i) (at_ + 1 + i) b
    | none => cmI S at_ P l i
def commitS (S : Dsk) (J : Jr) : Dsk := doS (flushD (writeD (flushD (cmI S J.at_ J.put J.keys J.keys.length)) J.at_ (header J.keys))) J.at_ J.keys
/-- what Commit leaves -/
def cmDsk (S : Dsk) (J : Jr) : Dsk := if J.put = [] then S else commitS S J
theorem cmI_facts {S : Dsk} {k : Nat} (at_ : Nat) {P : List (Int × List UInt8)} {l : List Int} (hg : S.Good k) (hl : ∀ n ∈ l, ∃ b, mget P n = some b ∧ b.length = 256) (ha : at_ + l.length < k) :
    ∀ i, i ≤ l.length → (cmI S at_ P l i).Good k ∧ (cmI S at_ P l i).ev.length = S.ev.length + i ∧ (cmI S at_ P l i).wrote.length = S.wrote.length + 256 * i := by
  intro i
  induction i with
  | zero => intro _; exact ⟨hg, rfl, rfl⟩
  | succ i ih =>
    intro hi
    obtain ⟨h1, h2, h3⟩ := ih (by omega)
    obtain ⟨b, hb, hbl⟩ := hl _ (List.getElem_mem (show i < l.length by omega))
    have e : cmI S at_ P l (i + 1) = writeD (cmI S at_ P l i) (at_ + 1 + i) b := by
      rw [cmI, List.getElem?_eq_getElem (show i < l.length by omega)]
      simp only [Option.bind_some, hb]
    rw [e]
    refine ⟨h1.write _ (by omega) b hbl, ?_, ?_⟩
    · simp only [writeD, List.length_append, List.length_cons, List.length_nil]; omega
    · simp only [writeD, List.length_append, hbl]; omega

theorem wpList_app_run {P : Program} (w : World) {ops : Array Oper} {rest : List Oper} {o : Oper} {a : Act} {Q : Exit → Act → World → Prop} (hgd : o.guard = none) (s x : Operand) (t t' : TypeId)
    (ho : o.op = .call { callee := .builtin .append, args := #[s, x], argTypes := #[t, t'] }) (vs vx : Value) (hs : a.eval s = vs) (hx : a.eval x = vx) (r : Value) (w' : World) (hrun : (Builtin.append_ #[t, t'] o.type #[vs, vx]).run P w = .ok r w')
    (h : wpList P ops Q rest (a.put o.dst r) w') : wpList P ops Q (o :: rest) a w := by
  refine wpList_plain hgd fun K hK => ?_
  unfold Oper.wp execOp
  simp only [ho, resolve, invoke, builtin, Sem.run_bind, Sem.run_pure, Result.andThen_ok, List.map_toArray, List.map_cons, List.map_nil, hs, hx, hrun]
  exact hK _ _ h
theorem runs_app_run {P : Program} {ops : Array Oper} {o : Oper} {a : Act} {w : World} {R : Value → World → Prop} (hg : o.guard = none) (s x : Operand) (t t' : TypeId)
    (ho : o.op = .call { callee := .builtin .append, args := #[s, x], argTypes := #[t, t'] }) (vs vx : Value) (hs : a.eval s = vs) (hx : a.eval x = vx) (r : Value) (w' : World) (hrun : (Builtin.append_ #[t, t'] o.type #[vs, vx]).run P w = .ok r w') (h : R r w') : Runs P ops o a w R := by
  refine runs_of hg ?_
  unfold execOp
  simp only [ho, resolve, invoke, builtin, Sem.run_bind, Sem.run_pure, Result.andThen_ok, List.map_toArray, List.map_cons, List.map_nil, hs, hx, hrun]
  exact h
set_option maxRecDepth 100000 in
set_option maxHeartbeats 4000000 in
theorem commit_ok (w : World) (F FJ : Nat → Prop) (j d k : Nat) (J : Jr) (S : Dsk) (hJ : JrAt w FJ j d J) (hd : DiskAt w F d S) (hdis : ∀ b, F b → ¬ FJ b) (hk1 : 1 ≤ k) (hk : k ≤ 2048) (hg : S.Good k)
    (hkeys : ∀ n ∈ J.put.map (·.1), 0 ≤ n ∧ n < (k : Int)) (hpl : J.put.length ≤ 30) (ha : J.at_ + J.put.length < k) (hev : S.ev.length ≤ 1000000) (hwr : S.wrote.length ≤ 1000000000) :
    Calls Try.prog 28 #[.pointer (some ⟨j, 0, none⟩)] w fun e w' => e = .returned (.int .i64 0) ∧ JrAt w' FJ j d ⟨J.at_, J.sec, []⟩ ∧ DiskAt w' (fun b => F b ∨ (w.heap.size ≤ b ∧ b < w'.heap.size)) d (cmDsk S J) ∧ Mod (fun b => F b ∨ FJ b) w w' := by
  have HN := Lib.hid hJ.isnt
  have HPe := Lib.hid (pending_ok w FJ j d J hJ (by omega))
  obtain ⟨g, D, q1, q2, q3, q4, q5, q6⟩ := (id hJ : ∃ _, _)
  obtain ⟨l, hle⟩ : ∃ l, l = J.keys := ⟨_, rfl⟩
  obtain ⟨m, hme⟩ : ∃ m, m = J.put.length := ⟨_, rfl⟩
  have hlm : l.length = m := by rw [hle, hme]; exact J.keys_length
  have hin : ∀ n ∈ l, n ∈ J.put.map (·.1) := by
    intro n hn
    rw [hle] at hn
    exact (List.mergeSort_perm _ _).mem_iff.1 hn
  have hget : ∀ n ∈ l, ∃ v b, mget D n = some v ∧ mget J.put n = some b ∧ SecV w FJ v b := by
    intro n hn
    rcases q5.get n with ⟨_, h2⟩ | ⟨v, b, h1, h2, h3⟩
    · exact absurd (hin n hn) (mget_none.1 h2)
    · exact ⟨v, b, h1, h2, h3⟩
  have hlk : ∀ n ∈ l, 0 ≤ n ∧ n < (k : Int) := fun n hn => hkeys n (hin n hn)
  have HG : Hid (∀ i, i ≤ m → (cmI S J.at_ J.put l i).Good k ∧ (cmI S J.at_ J.put l i).ev.length = S.ev.length + i ∧ (cmI S J.at_ J.put l i).wrote.length = S.wrote.length + 256 * i) := by
    rw [← hlm]
    exact cmI_facts J.at_ hg (fun n hn => by obtain ⟨v, b, _, h2, h3⟩ := hget n hn; exact ⟨b, h2, h3.1⟩) (by omega)
  have HJ := Lib.hid hJ
  have HD := Lib.hid hd
  have HM := Lib.hid q4
  have HX := Lib.hid (And.intro hdis q6)
  have HGet := Lib.hid hget
  have HLK := Lib.hid hlk
  have HFin : Hid (J.put ≠ [] → cmDsk S J = doS (flushD (writeD (flushD (cmI S J.at_ J.put l m)) J.at_ (header l))) J.at_ l) := by
    intro h
    unfold cmDsk commitS
    rw [if_neg h, ← hle, hlm]
  have HEmp : Hid (m = 0 → cmDsk S J = S ∧ J.put = []) := by
    intro h
    have : J.put = [] := List.eq_nil_of_length_eq_zero (by omega)
    exact ⟨by unfold cmDsk; rw [if_pos this], this⟩
  have hcells : ∀ wx, Mod F w wx → wx.cell? ⟨j, 0, none⟩ = some (.pointer (some ⟨d, 0, none⟩)) ∧ wx.cell? ⟨j, 1, none⟩ = some (.int .i64 (J.at_ : Int)) ∧ wx.cell? ⟨j, 3, none⟩ = some (.map (some g)) ∧ j < wx.heap.size := by
    intro wx hm
    have hb := q3.mod hm (fun e => hdis _ e q1)
    exact ⟨by rw [hb.cell]; rfl, by rw [hb.cell]; rfl, by rw [hb.cell]; rfl, hb.lt⟩
  have HC := Lib.hid hcells
  have HML : Hid (∀ wx n, Mod F w wx → n ∈ l → ∃ v b, mget J.put n = some b ∧ (Instr.lookup 60 (.map (some g)) (.int .i64 n) false).run Try.prog wx = .ok v wx ∧ SecV wx FJ v b) := by
    intro wx n hm hn
    obtain ⟨v, b, h1, h2, h3⟩ := hget n hn
    exact ⟨v, b, h2, (q4.mod hm (fun e => hdis _ e q2)).lookup_some Try.underlying60 h1 false, h3.mod hm (fun b hb e => hdis b e hb)⟩
  obtain ⟨a, hae⟩ : ∃ a, a = J.at_ := ⟨_, rfl⟩
  rw [← hae] at HG HFin HC ha
  rw [← hle] at HPe
  rw [← hme] at HPe hpl ha
  have HB0 := Lib.hid (And.intro hev (And.intro hwr (And.intro hlm (And.intro hme hae))))
  have ha2 : a < 2048 := by omega
  clear hJ hd hdis hg hkeys hev hwr hin hget hlk hcells q1 q2 q3 q4 q5 q6 hle hlm hae hme
  go_enter Try.func28, Try.ntmps28
  go_wp2_with fail
  refine HN.out.mono ?_
  rintro e w' ⟨rfl, rfl⟩
  go_wp2_with fail
  refine HPe.out.mono ?_
  rintro e w1 ⟨A, c, rfl, o1, f1, b1⟩
  have H1 := Lib.hid (And.intro o1 (And.intro f1 b1))
  clear o1 f1 b1 HPe
  by_cases hm0 : m = 0
  · subst hm0
    obtain ⟨e1, e2⟩ := HEmp.out rfl
    have E1 := Lib.hid e1
    have E2 := Lib.hid e2
    clear e1 e2
    go_wp2_with fail
    go_ret
    refine ⟨rfl, ?_, ?_, Mod.of_below H1.out.2.2⟩
    · have h := HJ.out.below H1.out.2.2
      obtain ⟨at0, sec0, put0⟩ := J
      have : put0 = [] := E2.out
      subst this
      exact h
    · rw [E1.out]
      have h := HD.out.below H1.out.2.2
      exact h.mono (fun b hb => .inl hb) (fun b hb => hb.elim (fun hb => h.lt hb) (fun hb => hb.2))
  · have hm0i : ((m : Int) == 0) = false := by simp; omega
    have wm : IntKind.u64.wrap (m : Int) = (m : Int) := by rw [IntKind.wrap_u64]; omega
    have HNE : Hid (J.put ≠ []) := fun h => hm0 (by rw [HB0.out.2.2.2.1, h]; rfl)
    go_wp2_with fail
    refine (bytes_ok w1 m).mono ?_
    rintro e w2 ⟨A2, rfl, o2, f2, b2⟩
    have H2 := Lib.hid (And.intro o2 (And.intro f2 b2))
    clear o2 f2 b2
    obtain ⟨g2, cap2, hv2, _, hg2l⟩ := H2.out.1.form (by omega)
    simp only [Value.slice.injEq] at hv2
    obtain ⟨rfl, hx, hy⟩ := hv2
    clear hx hy
    have kc := fun (w : World) (C : Array Value) (n c : Nat) => Lib.run_convert_bytes_const (P := Try.prog) w 22 5 C n c Try.underlying22 Try.underlying5
    obtain ⟨wq, hwq⟩ : ∃ wq, wq = w2.alloc (.cells #[.int .u8 115, .int .u8 116, .int .u8 105, .int .u8 108, .int .u8 108, .int .u8 119, .int .u8 97, .int .u8 108] 5 (8, 9)) := ⟨_, rfl⟩
    have hb2q : Below w2.heap.size w2 wq := by rw [hwq]; exact (Below.refl _ _).alloc (Nat.le_refl _) _
    have hsq : wq.heap.size = w2.heap.size + 1 := by rw [hwq]; simp
    have hcq : ∀ i u, (B8 magic)[i]? = some u → wq.cell? ((⟨w2.heap.size, 0, none⟩ : Addr).add i) = some u := by
      intro i u hu
      rw [add_lit0, Nat.zero_add, hwq]
      have e : B8 magic = [.int .u8 115, .int .u8 116, .int .u8 105, .int .u8 108, .int .u8 108, .int .u8 119, .int .u8 97, .int .u8 108] := by rfl
      rw [e] at hu
      have hh : (w2.alloc (.cells #[.int .u8 115, .int .u8 116, .int .u8 105, .int .u8 108, .int .u8 108, .int .u8 119, .int .u8 97, .int .u8 108] 5 (8, 9))).heap[w2.heap.size]? = some (.cells #[.int .u8 115, .int .u8 116, .int .u8 105, .int .u8 108, .int .u8 108, .int .u8 119, .int .u8 97, .int .u8 108] 5 (8, 9)) := heap_alloc_new w2 _
      rw [cell_of_row _ _ _ _ _ _ hh]
      simpa using hu
    obtain ⟨i5, hi5, hz5, hs5, hby5⟩ := info_parts info5
    have hn2 : ∀ j u, (B8 (bytesOf m))[j]? = some u → wq.cell? ((⟨g2, 0, none⟩ : Addr).add j) = some u := (own_below H2.out.1 hb2q).cells rfl
    have hap := run_append_grow (P := Try.prog) wq 22 22 5 i5 _ Try.underlying22 hi5 hz5 ⟨w2.heap.size, 0, none⟩ 8 8 (B8 magic) (by rw [hs5]; rfl) hcq ⟨g2, 0, none⟩ 8 8 (B8 (bytesOf m)) (by rw [hs5, B8_length, bytesOf_length]) hn2 (by omega) (by omega) (growslice_fits (by omega) (by rw [hby5]; omega))
    obtain ⟨cap3, hcap3⟩ : ∃ cap3, cap3 = grownCap wq (8 + 8) 8 5 := ⟨_, rfl⟩
    rw [← hcap3] at hap
    have hge : 8 + 8 ≤ cap3 := by rw [hcap3]; exact grownCap_ge wq (8 + 8) 8 5
    have hle : cap3 ≤ maxLen := by rw [hcap3]; exact grownCap_le_maxLen wq (8 + 8) 8 5 (by simp [maxLen])
    obtain ⟨w3, hw3⟩ : ∃ w3, w3 = wq.drew.alloc (.cells ((B8 magic).toArray ++ (B8 (bytesOf m)).toArray ++ Builtin.zeroCells (Value.int .u8 0).cells (cap3 - (8 + 8))) 5) := ⟨_, rfl⟩
    have hap : (Builtin.append_ #[22, 22] 22 #[.slice (some ⟨w2.heap.size, 0, none⟩) 8 8, .slice (some ⟨g2, 0, none⟩) 8 8]).run Try.prog wq = .ok (.slice (some ⟨wq.heap.size, 0, none⟩) 16 cap3) w3 := by rw [hw3]; exact hap
    obtain ⟨Ah, hAh⟩ : ∃ Ah : Option Addr, Ah = some ⟨wq.heap.size, 0, none⟩ := ⟨_, rfl⟩
    have hoh : w3.ownsRow 0 5 1 (.slice Ah 16 cap3) 16 (B8 (magic ++ bytesOf m)) := by
      subst hAh
      refine ⟨by rw [B8_length, List.length_append, bytesOf_length]; rfl, .inr ⟨wq.heap.size, cap3, _, rfl, Nat.zero_le _, by rw [hw3]; exact heap_alloc_new wq.drew _, hge, hle, ?_, ?_⟩⟩
      · simp only [Array.size_append, List.size_toArray, size_zeroCells, B8_length, bytesOf_length, Value.cells, List.length_cons, List.length_nil]
        have : magic.length = 8 := rfl
        omega
      · simp only [Array.toList_append, Nat.mul_one, B8_append]
        rw [List.take_left' (by rw [List.length_append, B8_length, B8_length, bytesOf_length]; rfl)]
    have hbq3 : Below wq.heap.size wq w3 := by rw [hw3]; exact (Below.refl _ _).drew.alloc (Nat.le_refl _) _
    have hoB : ∀ b, (Value.slice Ah 16 cap3).ownBlock = some b → b = wq.heap.size := by
      intro b hb
      rw [hAh] at hb
      simp [Value.ownBlock] at hb
      exact hb.symm
    have H3 := Lib.hid (And.intro hoh (And.intro (hb2q.trans (hbq3.mono (by omega))) hoB))
    have HSQ := Lib.hid hsq
    rw [← hAh] at hap
    rw [hwq] at hap
    clear hwq
    clear hb2q hcq hn2 hge hle hw3 hcap3 hoh hbq3 hoB hi5 hz5 hs5 hby5 hsq hAh
    go_wp2_with (at_builtin
                 refine wpList_app_run _ rfl (.tmp 26) (.tmp 27) 22 22 rfl _ _ rfl rfl _ _ hap ?_
                 clear hap)
    have hb13 : Below w1.heap.size w1 w3 := by
      have s2 := H2.out.2.2.size
      exact H2.out.2.2.trans (H3.out.2.1.mono s2)
    have hb03 : Below w.heap.size w w3 := H1.out.2.2.trans (hb13.mono H1.out.2.2.size)
    have hfh : ∀ b, (Value.slice Ah 16 cap3).ownBlock = some b → w1.heap.size ≤ b := by
      intro b hb
      have s2 := H2.out.2.2.size
      have := H3.out.2.2 b hb
      have := HSQ.out
      omega
    have hh0 : w3.ownsRow 0 5 1 (.slice Ah 16 cap3) 16 (B8 (hdrAt m (l.take 0))) := by
      have := H3.out.1
      have e : hdrAt m (l.take 0) = magic ++ bytesOf m := by simp [hdrAt]
      rw [e]; exact this
    have hl3 : w3.ownsRow 0 3 1 (.slice A m c) m (Ints l) := own_below H1.out.1 hb13
    have hfl := H1.out.2.1
    have HST := Lib.hid (And.intro hh0 (And.intro hl3 (And.intro hb03 (And.intro (fun b hb => Nat.le_trans H1.out.2.2.size (hfh b hb)) hfl))))
    clear hb13 hb03 hfh hh0 hl3 hfl H1 H2 H3
    go_loopg [6, 31] m (fun kq hv i wr => ∃ (q : Nat) (F2 : Nat → Prop) (Ah : Option Addr) (ch : Nat), i = .int .i64 q ∧ q ≤ m ∧ kq = m - q ∧ hv = .slice Ah (16 + 8 * q) ch ∧ Hid (DiskAt wr F2 d (cmI S a J.put l q)) ∧ Hid (∀ b, F2 b → F b ∨ w.heap.size ≤ b) ∧ Hid (Mod F w wr) ∧
      Hid (wr.ownsRow 0 5 1 (.slice Ah (16 + 8 * q) ch) (16 + 8 * q) (B8 (hdrAt m (l.take q)))) ∧ Hid (∀ b, (Value.slice Ah (16 + 8 * q) ch).ownBlock = some b → w.heap.size ≤ b ∧ ¬ F2 b) ∧ Hid (wr.ownsRow 0 3 1 (.slice A m c) m (Ints l)) ∧ Hid (∀ b, (Value.slice A m c).ownBlock = some b → w.heap.size ≤ b ∧ ¬ F2 b))
    case atStart =>
      obtain ⟨s1, s2, s3, s4, s5⟩ := HST.out
      exact ⟨0, F, Ah, cap3, rfl, by omega, rfl, rfl, HD.out.below s3, Lib.hid (fun b hb => .inl hb), Mod.of_below s3, s1, Lib.hid (fun b hb => ⟨s4 b hb, fun e => by have h1 := s4 b hb; have h2 := HD.out.lt e; omega⟩), s2, Lib.hid (fun b hb => ⟨s5 b hb, fun e => by have h1 := s5 b hb; have h2 := HD.out.lt e; omega⟩)⟩
    case round =>
      clear HST
      obtain ⟨q, F2, Ah, ch, rfl, hq, rfl, rfl, hd, hF2, hm, hh, hfh, hl, hfl⟩ := hrel
      by_cases hlt : q < m
      · have hqi : (q : Int) < (m : Int) := by omega
        obtain ⟨n, hn⟩ : ∃ n, l[q]? = some n := ⟨_, List.getElem?_eq_getElem (by have := HB0.out.2.2.1; omega)⟩
        have hnm := List.mem_of_getElem? hn
        obtain ⟨nn, rfl⟩ : ∃ nn : Nat, n = (nn : Int) := ⟨n.toNat, by have := (HLK.out n hnm).1; omega⟩
        have hnk : nn < k := by have := (HLK.out _ hnm).2; omega
        obtain ⟨gl, capl, hlv, _, hgl⟩ := hl.out.form (by omega)
        simp only [Value.slice.injEq] at hlv
        obtain ⟨rfl, hx, rfl⟩ := hlv
        clear hx
        have cl := hl.out.cells rfl q (.int .i64 (nn : Int)) (by simp only [Ints, List.getElem?_map, hn]; rfl)
        rw [add_lit0, Nat.zero_add] at cl
        obtain ⟨v, b, hgb, hlk, hsv⟩ := HML.out wr.drew nn hm.out.drew hnm
        obtain ⟨hbl, A5, c5, rfl, ho5, hf5⟩ := hsv
        obtain ⟨x0, x1, x3, xl⟩ := HC.out wr.drew hm.out.drew
        obtain ⟨p, hp⟩ : ∃ p, p = a + 1 + q := ⟨_, rfl⟩
        have w1' : IntKind.i64.wrap ((a : Int) + 1) = (a : Int) + 1 := by rw [IntKind.wrap_i64]; omega
        have w2' : IntKind.i64.wrap ((a : Int) + 1 + (q : Int)) = (p : Int) := by rw [IntKind.wrap_i64]; omega
        have hpk : p < k := by omega
        have wn : IntKind.u64.wrap (nn : Int) = (nn : Int) := by rw [IntKind.wrap_u64]; omega
        obtain ⟨g1, g2, g3⟩ := HG.out q hq
        have HG1 := Lib.hid (And.intro g1 (And.intro g2 g3))
        have hstep : Hid (cmI S a J.put l (q + 1) = writeD (cmI S a J.put l q) p b) := by
          have e : cmI S a J.put l (q + 1) = writeD (cmI S a J.put l q) p b := by rw [cmI, hn, hp]; simp only [Option.bind_some, hgb]
          exact e
        have htk : Hid (hdrAt m (l.take (q + 1)) = hdrAt m (l.take q) ++ bytesOf nn) := by
          have e : hdrAt m (l.take (q + 1)) = hdrAt m (l.take q) ++ bytesOf nn := by rw [List.take_add_one, hn]; exact hdrAt_snoc m _ _
          exact e
        have HSV := Lib.hid (And.intro hbl (And.intro ho5 hf5))
        have HDR := Lib.hid (hd.out.below (w' := wr.drew) (Below.refl _ _).drew)
        clear hn hnm hgb hp g1 g2 g3 ho5 hf5 hbl
        go_upto_region 11 with fail
        try simp only [Act.put, List.setIfInBounds_toArray, List.set_cons_zero, List.set_cons_succ]
        obtain ⟨Inv, hInv⟩ : ∃ Inv : Done → World → Prop, Inv = Chain1 17 (fun wI => wI = wr.drew) (fun x wI => DiskAt wI (fun b => F2 b ∨ (wr.drew.heap.size ≤ b ∧ b < wI.heap.size)) d (writeD (cmI S a J.put l q) p b) ∧ Mod F2 wr.drew wI) := ⟨_, rfl⟩
        have HI := Lib.hid hInv
        have H00 : Hid (Inv Done.none wr.drew) := by rw [hInv]; exact Chain1.start rfl
        clear hInv
        refine wp_region_inv (by kernel_rfl) [⟨0, false, [], [17]⟩, ⟨1, false, [], [17]⟩, ⟨2, false, [], [17]⟩, ⟨3, false, [], [17]⟩, ⟨4, false, [], [17]⟩, ⟨5, false, [], [17]⟩, ⟨6, false, [], [17]⟩, ⟨7, false, [], [17]⟩, ⟨8, false, [], [17]⟩, ⟨9, false, [], [17]⟩, ⟨10, false, [], [17]⟩, ⟨11, false, [], [17]⟩, ⟨12, false, [], [17]⟩, ⟨13, false, [], [17]⟩, ⟨14, false, [], [17]⟩, ⟨15, false, [], [17]⟩, ⟨16, false, [], [17]⟩, ⟨17, true, [], []⟩] (by kernel_rfl) Inv (fun _ _ => True) (fun _ => ⟨undef, trivial⟩) H00.out ?_
        iterate 17 (apply WpI.pure; (simp only [List.getElem?_toArray, List.getElem?_cons_succ, List.getElem?_cons_zero]; rfl); (intro τ wI hA hI; have h0 := hI; rw [HI.out] at h0; have h0 := h0.at0 (hA.2 17 (by decide)); subst h0; clear hA; go_simp; exact ⟨hI, Is.rfl'⟩); simp only [Act.put, List.setIfInBounds_toArray, List.set_cons_zero, List.set_cons_succ])
        apply WpI.effect; (simp only [List.getElem?_toArray, List.getElem?_cons_succ, List.getElem?_cons_zero]; rfl)
        · intro τ wI hA hn hI
          have h0 := hI
          rw [HI.out] at h0
          have h0 := h0.at0 hn
          subst h0
          clear hA hn hI
          go_simp
          refine (write_ok wr.drew F2 _ d k p _ A5 c5 b HDR.out hk1 hk HG1.out.1.ok.now hpk (Sl.of_own HSV.out.2.1) (fun b hb e => by have h1 := HSV.out.2.2 b e.1; rcases hF2.out b hb with h2 | h2; exact HX.out.1 b h2 h1; have := HX.out.2 b h1; omega) (by have := HG1.out.2.1; have := HB0.out.1; omega) (by have := HG1.out.2.2; have := HB0.out.2.1; omega)).mono ?_
          rintro e w' ⟨rfl, k1, k2⟩
          refine ⟨_, rfl, ?_⟩
          rw [HI.out]
          exact Chain1.put1 ⟨k1, k2⟩
        intro v17 hv17
        clear hv17
        refine WpI.done ?_
        intro wI hI
        rw [HI.out] at hI
        obtain ⟨k1, k2⟩ := hI.end_
        have hszr : w.heap.size ≤ wr.heap.size := hm.out.size
        have hmI : Mod F w wI := hm.out.drew.trans (k2.mono (fun b _ hb => hb)) (fun b hb h => (hF2.out b h).elim id (fun h => by omega))
        have hhI := own_mod (w := wr.drew) hh.out k2 (fun b hb => (hfh.out b hb).2)
        have hlI := own_mod (w := wr.drew) hl.out k2 (fun b hb => (hfl.out b hb).2)
        have HW := Lib.hid (And.intro k1 (And.intro hmI (And.intro hhI hlI)))
        have hlth : ∀ b, (Value.slice Ah (16 + 8 * q) ch).ownBlock = some b → b < wr.heap.size := fun b hb => own_lt' hh.out hb
        have hltl : ∀ b, (Value.slice (some ⟨gl, 0, none⟩) m c).ownBlock = some b → b < wr.heap.size := fun b hb => own_lt' hl.out hb
        have HLT := Lib.hid (And.intro hlth hltl)
        have HSZ : Hid (wr.heap.size ≤ wI.heap.size) := k2.size
        clear hI HI H00 k1 k2 hmI hhI hlI x0 x1 x3 xl cl hlk HDR hlth hltl
        go_wp2_with fail
        refine (bytes_ok wI nn).mono ?_
        rintro e w5 ⟨A6, rfl, o6, f6, b6⟩
        have H6 := Lib.hid (And.intro o6 (And.intro f6 b6))
        have hh5 := Lib.hid (own_below HW.out.2.2.1 b6)
        clear o6 f6 b6
        go_wp2_with (at_builtin
                     refine wpList_app _ rfl (.tmp 60) (.tmp 61) 22 rfl 5 (.int .u8 0) 1 1 Try.underlying22 info5 rfl (by omega) (by omega) (.slice Ah (16 + 8 * q) ch) (16 + 8 * q) (B8 (hdrAt m (l.take q))) rfl
                       hh5.out _ (.slice A6 8 8) 8 (B8 (bytesOf nn)) rfl (Sl.of_own H6.out.1) (B8_one _) (by omega) ?_
                     intro Ah2 ch2 w6 ho6 hg6 hat6 _
                     have H7 := Lib.hid (And.intro ho6 (And.intro hg6 hat6))
                     clear ho6 hg6 hat6)
        go_roundg (m - (q + 1))
        case measure => omega
        case rel =>
          obtain ⟨k1, k2, k3⟩ := H7.out
          obtain ⟨e1, e2, e3, e4⟩ := HW.out
          have s5 := H6.out.2.2.size
          have sI := e2.size
          have hmm : Mod (fun b => (Value.slice Ah (16 + 8 * q) ch).ownBlock = some b) wI w6 := (Mod.of_below H6.out.2.2).trans ((Mod.refl _ _).grown k2 (fun k hk _ => hk)) (fun _ _ h => h)
          have hsr : wr.heap.size ≤ wI.heap.size := HSZ.out
          have heq : 16 + 8 * (q + 1) = 16 + 8 * q + 8 := by omega
          have a1 : DiskAt w6 (fun b => F2 b ∨ (wr.drew.heap.size ≤ b ∧ b < wI.heap.size)) d (writeD (cmI S a J.put l q) p b) := e1.mod hmm (fun b hb e => by
            have h1 := hfh.out b e
            have h2 := HLT.out.1 b e
            rcases hb with hb | hb
            · exact h1.2 hb
            · have : wr.heap.size ≤ b := hb.1; omega)
          have a2 : ∀ b, (F2 b ∨ (wr.drew.heap.size ≤ b ∧ b < wI.heap.size)) → F b ∨ w.heap.size ≤ b := fun b hb => by
            rcases hb with hb | hb
            · exact hF2.out b hb
            · have : wr.heap.size ≤ b := hb.1; exact .inr (by omega)
          have a3 : Mod F w w6 := e2.trans hmm (fun b hb e => by have := (hfh.out b e).1; omega)
          have a4 : ∀ b, (Value.slice Ah2 (16 + 8 * (q + 1)) ch2).ownBlock = some b → w.heap.size ≤ b ∧ ¬ (F2 b ∨ (wr.drew.heap.size ≤ b ∧ b < wI.heap.size)) := fun b hb => by
            rw [heq] at hb
            rcases k3 with e | e
            · rw [e] at hb
              refine ⟨(hfh.out b hb).1, fun h => ?_⟩
              have h2 := HLT.out.1 b hb
              rcases h with h | h
              · exact (hfh.out b hb).2 h
              · have : wr.heap.size ≤ b := h.1; omega
            · rw [e] at hb
              injection hb with hb
              refine ⟨by omega, fun h => ?_⟩
              rcases h with h | h
              · have := hd.out.lt h; omega
              · omega
          have a5 : ∀ b, (Value.slice (some ⟨gl, 0, none⟩) m c).ownBlock = some b → w.heap.size ≤ b ∧ ¬ (F2 b ∨ (wr.drew.heap.size ≤ b ∧ b < wI.heap.size)) := fun b hb => by
            refine ⟨(hfl.out b hb).1, fun h => ?_⟩
            have h2 := HLT.out.2 b hb
            rcases h with h | h
            · exact (hfl.out b hb).2 h
            · have : wr.heap.size ≤ b := h.1; omega
          refine ⟨q + 1, _, Ah2, ch2, by go_num, by omega, rfl, by rw [heq], by rw [hstep.out]; exact Lib.hid a1, Lib.hid a2, Lib.hid a3, by rw [heq, htk.out, B8_append]; exact Lib.hid k1, Lib.hid a4, Lib.hid (own_mod e4 hmm (fun b hb e => own_ne e4 e3 (by decide) b hb e)), Lib.hid a5⟩
      · obtain rfl : q = m := by omega
        obtain ⟨g1, g2, g3⟩ := HG.out q hq
        have HG1 := Lib.hid (And.intro g1 (And.intro g2 g3))
        have hlq := HB0.out.2.2.1
        have htk : hdrAt q (l.take q) = hdrAt q l := by rw [List.take_of_length_le (by omega)]
        rw [htk] at hh
        obtain ⟨x0, x1, x3, xl⟩ := HC.out wr hm.out
        have HLQ := Lib.hid hlq
        clear g1 g2 g3 htk hlq
        go_wp2_with fail
        refine (flush_ok wr F2 d k _ hd.out hk1 hk HG1.out.1.ok.now (by have := HG1.out.2.1; have := HB0.out.1; omega)).mono ?_
        rintro e w3 ⟨rfl, hd3, hm3⟩
        have sr : w.heap.size ≤ wr.heap.size := hm.out.size
        have hm03 : Mod F w w3 := hm.out.trans (hm3.mono (fun b _ hb => hb)) (fun b hb h => (hF2.out b h).elim id (fun h => by omega))
        have hh3 := own_mod hh.out hm3 (fun b hb => (hfh.out b hb).2)
        have hl3 := own_mod hl.out hm3 (fun b hb => (hfl.out b hb).2)
        have hlth : ∀ b, (Value.slice Ah (16 + 8 * q) ch).ownBlock = some b → b < wr.heap.size := fun b hb => own_lt' hh.out hb
        have hltl : ∀ b, (Value.slice A q c).ownBlock = some b → b < wr.heap.size := fun b hb => own_lt' hl.out hb
        have hfh3 : ∀ b, (Value.slice Ah (16 + 8 * q) ch).ownBlock = some b → w.heap.size ≤ b ∧ ¬ (F2 b ∨ (wr.heap.size ≤ b ∧ b < w3.heap.size)) := fun b hb => ⟨(hfh.out b hb).1, fun h => h.elim (fun h => (hfh.out b hb).2 h) (fun h => by have := hlth b hb; omega)⟩
        have hfl3 : ∀ b, (Value.slice A q c).ownBlock = some b → w.heap.size ≤ b ∧ ¬ (F2 b ∨ (wr.heap.size ≤ b ∧ b < w3.heap.size)) := fun b hb => ⟨(hfl.out b hb).1, fun h => h.elim (fun h => (hfl.out b hb).2 h) (fun h => by have := hltl b hb; omega)⟩
        have hF3 : ∀ b, (F2 b ∨ (wr.heap.size ≤ b ∧ b < w3.heap.size)) → F b ∨ w.heap.size ≤ b := fun b hb => hb.elim (fun hb => hF2.out b hb) (fun hb => .inr (by omega))
        obtain ⟨F3, S3, hS3, hE3, hd3, hfh3, hfl3, hF3⟩ : ∃ (F3 : Nat → Prop) (S3 : Dsk), S3 = flushD (cmI S a J.put l q) ∧ (S3.Good k ∧ S3.ev.length ≤ 2000000 ∧ S3.wrote.length ≤ 2000000000) ∧ DiskAt w3 F3 d S3 ∧ (∀ b, (Value.slice Ah (16 + 8 * q) ch).ownBlock = some b → w.heap.size ≤ b ∧ ¬ F3 b) ∧ (∀ b, (Value.slice A q c).ownBlock = some b → w.heap.size ≤ b ∧ ¬ F3 b) ∧ (∀ b, F3 b → F b ∨ w.heap.size ≤ b) := by
          refine ⟨_, _, rfl, ⟨HG1.out.1.flush, ?_, ?_⟩, hd3, hfh3, hfl3, hF3⟩
          · have := HG1.out.2.1; have := HB0.out.1; simp only [flushD, List.length_append, List.length_cons, List.length_nil]; omega
          · have := HG1.out.2.2; have := HB0.out.2.1; simp only [flushD]; omega
        have HFin2 : Hid (J.put ≠ [] → cmDsk S J = doS (flushD (writeD S3 a (header l))) J.at_ l) := by
          intro h
          rw [HFin.out h, hS3, ← HB0.out.2.2.2.2]
        have H3 := Lib.hid (And.intro hd3 (And.intro hE3 (And.intro hm03 (And.intro hh3 (And.intro hl3 (And.intro hfh3 (And.intro hfl3 hF3)))))))
        obtain ⟨y0, y1, y3, yl⟩ := HC.out w3.drew hm03.drew
        have HC3 := Lib.hid (And.intro y0 (And.intro y1 yl))
        obtain ⟨z, hz⟩ : ∃ z, z = 256 - (16 + 8 * q) := ⟨_, rfl⟩
        have wz : IntKind.i64.wrap (256 - (16 + 8 * (q : Int))) = (z : Int) := by rw [IntKind.wrap_i64]; omega
        obtain ⟨gh, caph, hhv, _⟩ := hh3.form (by omega)
        simp only [Value.slice.injEq] at hhv
        obtain ⟨rfl, hx, rfl⟩ := hhv
        obtain ⟨A7, c7, w7, hapz, ho7, hg7, hat7⟩ := run_app_zeros (P := Try.prog) w3.drew 22 3 22 5 Try.underlying22 Try.underlying3 info5 gh (16 + 8 * q) ch (hdrAt q l) hh3 z (by omega)
        have e256 : 16 + 8 * q + z = 256 := by omega
        rw [e256] at hapz ho7 hat7
        have ehd : hdrAt q l ++ List.replicate z 0 = header l := by unfold header; rw [HLQ.out, hz]
        rw [ehd] at ho7
        have hm7 : Mod (fun b => b = gh) w3.drew w7 := (Mod.refl _ _).grown hg7 (fun k hk _ => by injection hk with hk; exact hk.symm)
        have hgh := hfh3 gh rfl
        have hd7 := (hd3.below (w' := w3.drew) (Below.refl _ _).drew).mod hm7 (fun b hb e => hgh.2 (by rw [← e]; exact hb))
        have hf7 : ∀ b, (Value.slice A7 256 c7).ownBlock = some b → w.heap.size ≤ b ∧ ¬ F3 b := by
          intro b hb
          have s3 : w.heap.size ≤ w3.heap.size := hm03.size
          rcases hat7 with e | e
          · rw [e] at hb; injection hb with hb; subst hb; exact hgh
          · rw [e] at hb; injection hb with hb
            have hb : w3.heap.size = b := hb
            exact ⟨by omega, fun h => by have := hd3.lt h; omega⟩
        have hm07 : Mod F w w7 := hm03.drew.trans hm7 (fun b hb e => by have := hgh.1; omega)
        have hl7 := own_mod (w := w3.drew) hl3 hm7 (fun b hb e => own_ne hl3 hh3 (by decide) b hb (by rw [e]; rfl))
        have H7 := Lib.hid (And.intro ho7 (And.intro hd7 (And.intro hf7 (And.intro hm07 hl7))))
        obtain ⟨u0, u1, u3, ul⟩ := HC.out w7 hm07
        have HC7 := Lib.hid (And.intro u0 (And.intro u1 ul))
        have HAZ := Lib.hid hapz
        clear x0 x1 x3 xl y3 hd3 hm3 hm03 hh3 hl3 hfh3 hfl3 hF3 hlth hltl hE3 hS3 hd hF2 hm hh hfh hl hfl hx hz ehd hapz ho7 hg7 hat7 hm7 hgh hd7 hf7 hm07 hl7 u0 u1 u3 ul e256
        go_upto_region 16 with fail
        try simp only [Act.put, List.setIfInBounds_toArray, List.set_cons_zero, List.set_cons_succ]
        have hak : a < k := by omega
        obtain ⟨Inv, hInv⟩ : ∃ Inv : Done → World → Prop, Inv = Chain2 12 13 (fun wI => wI = w3.drew) (fun x wI => x = .slice A7 256 c7 ∧ wI = w7) (fun x y wI => DiskAt wI (fun b => F3 b ∨ (w7.heap.size ≤ b ∧ b < wI.heap.size)) d (writeD S3 a (header l)) ∧ Mod F3 w7 wI) := ⟨_, rfl⟩
        have HI := Lib.hid hInv
        have hcz : Hid (∀ τ wI, Inv τ wI → τ 13 = none → wI.cell? ⟨j, 0, none⟩ = some (.pointer (some ⟨d, 0, none⟩)) ∧ wI.cell? ⟨j, 1, none⟩ = some (.int .i64 (a : Int)) ∧ j < wI.heap.size) := by
          intro τ wI h h9
          rw [hInv] at h
          rcases h.upto1 h9 with rfl | ⟨x, _, rfl⟩
          · exact HC3.out
          · exact HC7.out
        have H00 : Hid (Inv Done.none w3.drew) := by rw [hInv]; exact Chain2.start rfl
        clear hInv y0 y1 yl
        refine wp_region_inv (by kernel_rfl) [⟨0, false, [], [13]⟩, ⟨1, false, [], [13]⟩, ⟨2, false, [], [13]⟩, ⟨3, false, [], [13]⟩, ⟨4, false, [], [13]⟩, ⟨5, false, [], [13]⟩, ⟨6, false, [], [13]⟩, ⟨7, false, [], [13]⟩, ⟨8, false, [], [12, 13]⟩, ⟨9, false, [], [12, 13]⟩, ⟨10, false, [], [12, 13]⟩, ⟨11, false, [], [12, 13]⟩, ⟨12, true, [], [13]⟩, ⟨13, true, [12], []⟩] (by kernel_rfl) Inv (fun _ _ => True) (fun _ => ⟨undef, trivial⟩) H00.out ?_
        iterate 12 (apply WpI.pure; (simp only [List.getElem?_toArray, List.getElem?_cons_succ, List.getElem?_cons_zero]; rfl); (intro τ wI hA hI; obtain ⟨hc0, hc1, hcl⟩ := hcz.out τ wI hI (hA.2 13 (by decide)); go_simp; exact ⟨hI, Is.rfl'⟩); simp only [Act.put, List.setIfInBounds_toArray, List.set_cons_zero, List.set_cons_succ])
        apply WpI.effect; (simp only [List.getElem?_toArray, List.getElem?_cons_succ, List.getElem?_cons_zero]; rfl)
        · intro τ wI hA hn hI
          have h0 := hI
          rw [HI.out] at h0
          have h9 : τ 13 = none := hA.2 13 (by decide)
          have h0 := h0.at0 hn h9
          subst h0
          refine runs_app_run rfl (.tmp 77) (.tmp 80) 22 3 rfl (.slice (some ⟨gh, 0, none⟩) (16 + 8 * q) ch) (.int .i64 (z : Int)) rfl rfl _ _ HAZ.out ⟨trivial, ?_⟩
          rw [HI.out]
          exact Chain2.put1 h9 (by decide) ⟨rfl, rfl⟩
        intro v12 hv12
        clear hv12
        simp only [Act.put, List.setIfInBounds_toArray, List.set_cons_zero, List.set_cons_succ]
        apply WpI.effect; (simp only [List.getElem?_toArray, List.getElem?_cons_succ, List.getElem?_cons_zero]; rfl)
        · intro τ wI hA hn hI
          have h0 := hI
          rw [HI.out] at h0
          have h8 : τ 12 = some v12 := hA.1 12 (by decide)
          obtain ⟨rfl, rfl⟩ := h0.at1 h8 hn
          have H8 := Lib.hid h8
          clear hA hn hI h8 h0
          go_simp
          refine (write_ok wI F3 _ d k a S3 A7 c7 (header l) H7.out.2.1 hk1 hk H3.out.2.1.1.ok.now hak (Sl.of_own H7.out.1) (fun b hb e => (H7.out.2.2.1 b e.1).2 hb) (by have := H3.out.2.1.2.1; omega) (by have := H3.out.2.1.2.2; omega)).mono ?_
          rintro e w' ⟨rfl, k1, k2⟩
          refine ⟨_, rfl, ?_⟩
          rw [HI.out]
          exact Chain2.put2 H8.out (by decide) ⟨k1, k2⟩
        intro v13 hv13
        clear hv13
        refine WpI.done ?_
        intro wI hI
        rw [HI.out] at hI
        obtain ⟨k1, k2⟩ := hI.end_ (by decide)
        have s7 : w.heap.size ≤ w7.heap.size := H7.out.2.2.2.1.size
        have hF3 := H3.out.2.2.2.2.2.2.2
        have hfl3 := H3.out.2.2.2.2.2.2.1
        have hm0I : Mod F w wI := H7.out.2.2.2.1.trans (k2.mono (fun b _ hb => hb)) (fun b hb h => (hF3 b h).elim id (fun h => by omega))
        have hlI := own_mod H7.out.2.2.2.2 k2 (fun b hb => (hfl3 b hb).2)
        have hltl : ∀ b, (Value.slice A q c).ownBlock = some b → b < w7.heap.size := fun b hb => own_lt' H7.out.2.2.2.2 hb
        obtain ⟨F4, hF4, hfl4, hd4⟩ : ∃ F4 : Nat → Prop, (∀ b, F4 b → F b ∨ w.heap.size ≤ b) ∧ (∀ b, (Value.slice A q c).ownBlock = some b → w.heap.size ≤ b ∧ ¬ F4 b) ∧ DiskAt wI F4 d (writeD S3 a (header l)) :=
          ⟨_, fun b hb => hb.elim (fun hb => hF3 b hb) (fun hb => .inr (by omega)), fun b hb => ⟨(hfl3 b hb).1, fun h => h.elim (fun h => (hfl3 b hb).2 h) (fun h => by have := hltl b hb; omega)⟩, k1⟩
        have hg4 : (writeD S3 a (header l)).Good k := H3.out.2.1.1.write a hak _ (header_length (by rw [HLQ.out]; exact hpl))
        have hE4 : (writeD S3 a (header l)).ev.length ≤ 3000000 ∧ (writeD S3 a (header l)).wrote.length ≤ 3000000000 := by
          have e1 := H3.out.2.1.2.1
          have e2 := H3.out.2.1.2.2
          have e3 := header_length (l := l) (by rw [HLQ.out]; exact hpl)
          refine ⟨?_, ?_⟩
          · simp only [writeD, List.length_append, List.length_cons, List.length_nil]; omega
          · simp only [writeD, List.length_append]; omega
        obtain ⟨z0, z1, z3, zl⟩ := HC.out wI hm0I
        have H4 := Lib.hid (And.intro hd4 (And.intro hg4 (And.intro hE4 (And.intro hm0I (And.intro hlI (And.intro hfl4 hF4))))))
        clear hI HI H00 hcz k1 k2 hm0I hlI hltl hF4 hfl4 hd4 hg4 hE4 hF3 hfl3 H7 H3 HC7 HC3 HAZ
        go_wp2_with fail
        refine (flush_ok wI F4 d k _ H4.out.1 hk1 hk H4.out.2.1.ok.now (by have := H4.out.2.2.1.1; omega)).mono ?_
        rintro e w8 ⟨rfl, hd8, hm8⟩
        obtain ⟨_, hg4, hE4, hm4, hl4, hfl4, hF4⟩ := H4.out
        have sI : w.heap.size ≤ wI.heap.size := hm4.size
        have hm08 : Mod F w w8 := hm4.trans (hm8.mono (fun b _ hb => hb)) (fun b hb h => (hF4 b h).elim id (fun h => by omega))
        have hl8 := own_mod hl4 hm8 (fun b hb => (hfl4 b hb).2)
        have hltl : ∀ b, (Value.slice A q c).ownBlock = some b → b < wI.heap.size := fun b hb => own_lt' hl4 hb
        obtain ⟨F8, hF8, hfl8, hd8⟩ : ∃ F8 : Nat → Prop, (∀ b, F8 b → F b ∨ w.heap.size ≤ b) ∧ (∀ b, (Value.slice A q c).ownBlock = some b → w.heap.size ≤ b ∧ ¬ F8 b) ∧ DiskAt w8 F8 d (flushD (writeD S3 a (header l))) :=
          ⟨_, fun b hb => hb.elim (fun hb => hF4 b hb) (fun hb => .inr (by omega)), fun b hb => ⟨(hfl4 b hb).1, fun h => h.elim (fun h => (hfl4 b hb).2 h) (fun h => by have := hltl b hb; omega)⟩, hd8⟩
        have hE8 : (flushD (writeD S3 a (header l))).ev.length ≤ 4000000 ∧ (flushD (writeD S3 a (header l))).wrote.length ≤ 4000000000 := by
          refine ⟨?_, ?_⟩
          · have := hE4.1; simp only [flushD, List.length_append, List.length_cons, List.length_nil]; omega
          · have := hE4.2; simp only [flushD]; omega
        have hJ8 : JrAt w8 FJ j d J := HJ.out.mod hm08 (fun b hb e => HX.out.1 b e hb)
        have H8 := Lib.hid (And.intro hd8 (And.intro hg4.flush (And.intro hE8 (And.intro hm08 (And.intro hl8 (And.intro hfl8 (And.intro hF8 hJ8)))))))
        clear hd8 hm8 hg4 hE4 hm4 hl4 hfl4 hF4 hm08 hl8 hltl hF8 hfl8 hE8 hJ8 H4 z0 z1 z3 zl sI
        go_wp2_with fail
        obtain ⟨hd8, hg8, hE8, hm08, hl8, hfl8, hF8, hJ8⟩ := H8.out
        refine (do_ok w8 F8 FJ _ j d k J _ A q c l hJ8 hd8 (fun b hb e => (hF8 b hb).elim (fun h => HX.out.1 b h e) (fun h => by have := HX.out.2 b e; omega)) hk1 hk hg8 (Sl.of_own hl8) (fun b hb e => (hfl8 b e.1).2 hb) HLK.out (by rw [← HB0.out.2.2.2.2]; exact ha) (by have := hE8.1; omega) (by have := hE8.2; omega)).mono ?_
        rintro e w9 ⟨rfl, hd9, hm9⟩
        have s8 : w.heap.size ≤ w8.heap.size := hm08.size
        have hm09 : Mod F w w9 := hm08.trans (hm9.mono (fun b _ hb => hb)) (fun b hb h => (hF8 b h).elim id (fun h => by omega))
        have hJ9 : JrAt w9 FJ j d J := HJ.out.mod hm09 (fun b hb e => HX.out.1 b e hb)
        have hF9 : ∀ b, (F8 b ∨ (w8.heap.size ≤ b ∧ b < w9.heap.size)) → F b ∨ w.heap.size ≤ b := fun b hb => hb.elim (fun hb => hF8 b hb) (fun hb => .inr (by omega))
        have H9 := Lib.hid (And.intro hd9 (And.intro hm09 (And.intro hJ9 hF9)))
        clear hd9 hm9 hm09 hJ9 hF9 hd8 hg8 hE8 hm08 hl8 hfl8 hF8 hJ8 H8
        go_wp2_with fail
        refine (abort_ok w9 FJ j d J H9.out.2.2.1).mono ?_
        rintro e wA ⟨rfl, hJA, hmA⟩
        have HA := Lib.hid (And.intro hJA hmA)
        clear hJA hmA
        go_wp2_with fail
        go_ret
        obtain ⟨hd9, hm09, hJ9, hF9⟩ := H9.out
        obtain ⟨hJA, hmA⟩ := HA.out
        have hdA := hd9.mod hmA (fun b hb e => (hF9 b hb).elim (fun h => HX.out.1 b h e) (fun h => by have := HX.out.2 b e; omega))
        refine ⟨rfl, hJA, ?_, (hm09.mono (fun _ _ h => .inl h)).trans hmA (fun _ _ h => .inr h)⟩
        rw [HFin2.out HNE.out]
        have hltA := fun b => hdA.lt (b := b)
        exact hdA.mono (fun b hb => (hF9 b hb).imp id (fun h => ⟨h, hltA b hb⟩)) (fun b hb => hb.elim (fun hb => by have h1 := HD.out.lt hb; have h2 := hm09.size; have h3 := hmA.size; omega) (fun hb => hb.2))
end Go.Proofs.Ytjdobjcbmmdjeaa
