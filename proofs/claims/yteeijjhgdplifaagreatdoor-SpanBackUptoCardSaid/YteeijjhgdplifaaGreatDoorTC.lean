/- Ranges, plainly: a set's text is a range of the same places. -/
import Derived.Test.YteeijjhgdplifaaGreatDoorTB
namespace Go.Proofs.YteeijjhgdplifaaGreatDoor

def lowT (a : Cut) : List (List UInt8) := if a.a = 1 then [62 :: 61 :: (tv a.v).1] else if a.a = 2 then [62 :: (tv a.v).1] else []
def highT (b : Cut) : List (List UInt8) := if b.a = 1 then [60 :: (tv b.v).1] else if b.a = 2 then [60 :: 61 :: (tv b.v).1] else []
/-- what lies between two cuts, as terms -/
def pieceP (a b : Cut) : List UInt8 :=
  if a.a = 1 ∧ b.a = 2 ∧ a.v = b.v then 61 :: (tv a.v).1
  else if lowT a ++ highT b = [] then [42] else Lib.join (lowT a ++ highT b) [44]
def piecesP : List Cut → List (List UInt8)
  | a :: b :: r => pieceP a b :: piecesP r
  | _ => []
def noneT : List UInt8 := [62, 48, 45, 48, 44, 60, 48, 45, 48]
/-- a set's text -/
def textP (cs : List Cut) : List UInt8 := if cs = [] then noneT else Lib.join (piecesP cs) [124]

theorem tagB_ge {b : UInt8} (h : tagB b = true) : 48 ≤ b.toNat ∧ b.toNat ≤ 122 ∧ ¬ (58 ≤ b.toNat ∧ b.toNat ≤ 96) := by
  unfold tagB at h
  simp only [Bool.or_eq_true, Bool.and_eq_true, decide_eq_true_eq] at h
  omega
theorem ver_bytes {v : Ver} (hl : v.ns.length = 4) (hm : v.may = true) : ∀ b ∈ v.text, (48 ≤ b.toNat ∧ b.toNat ≤ 57) ∨ (97 ≤ b.toNat ∧ b.toNat ≤ 122) ∨ b = 46 ∨ b = 45 := by
  intro b hb
  unfold Ver.text at hb
  rcases List.mem_append.1 hb with hb | hb
  · rcases mem_join hb with h | ⟨x, hx, hbx⟩
    · rw [List.mem_singleton.1 h]; exact .inr (.inr (.inl rfl))
    · obtain ⟨u, _, rfl⟩ := Ver.nums_dec hl hm x hx
      exact .inl (dec_mem u b hbx)
  · unfold tagText at hb
    split at hb
    · cases hb
    · rcases List.mem_cons.1 hb with rfl | hb
      · exact .inr (.inr (.inr rfl))
      · have ht := v.may_t hm
        unfold tagOk at ht
        simp only [Bool.and_eq_true, List.all_eq_true] at ht
        have := tagB_ge (ht.1 b hb)
        omega
theorem ver_no {v : Ver} (hl : v.ns.length = 4) (hm : v.may = true) {c : UInt8} (hc : c = 124 ∨ c = 44 ∨ c = 42) : c ∉ v.text := by
  intro h
  have := ver_bytes hl hm c h
  rcases hc with rfl | rfl | rfl <;> revert this <;> decide
theorem text_head {v : Ver} (hl : v.ns.length = 4) (hm : v.may = true) : ∃ b r, v.text = b :: r ∧ opSet.contains b = false := by
  obtain ⟨b, r, h, hb⟩ := readVer_head (readVer_text hl hm)
  exact ⟨b, r, h, opSet_no hb⟩
theorem term_op {op : List UInt8} {v : Ver} (ho : op ∈ allOps) (hl : v.ns.length = 4) (hm : v.may = true) : termP (op ++ v.text) = opCuts op v := by
  have h1 := trim_pre (allOps_in op ho) (text_head hl hm)
  have hne : op ++ v.text ≠ [42] := by
    intro e
    cases op with
    | nil => exact absurd ho (by decide)
    | cons b r =>
      have := allOps_in _ ho b (by simp)
      have e1 : b = 42 := by simpa using (List.cons.inj e).1
      rw [e1] at this
      exact absurd this (by decide)
  unfold termP
  rw [if_neg hne, h1, readVer_text hl hm]
  simp only [List.length_append, Nat.add_sub_cancel]
  rw [List.take_left' rfl]
/-- the version 0-0 -/
def v00 : Ver := ⟨[0, 0, 0, 0], 1, [48]⟩
theorem v00_may : v00.may = true := by decide
theorem v00_text : v00.text = [48, 45, 48] := by
  show Lib.join [Lib.itoa 0] [46] ++ _ = _
  rw [Lib.join_one, itoa_nat (by decide), show (0 : Int).toNat = 0 from rfl, dec_small (by decide)]
  rfl
theorem no_two {c : UInt8} {x y : List UInt8} (hx : c ∉ x) (hy : c ∉ y) : ∀ z ∈ [x, y], c ∉ z := by
  intro z hz
  rcases List.mem_cons.1 hz with rfl | hz
  · exact hx
  · rw [List.mem_singleton.1 hz]; exact hy
theorem hasA_two {x y : List UInt8} (hx : (44 : UInt8) ∉ x) (hy : (44 : UInt8) ∉ y) (t : Cut) : hasA (Lib.join [x, y] [44]) t = (hasX x t && hasX y t) := by
  unfold hasA
  rw [splitC_join [x, y] (by simp) (no_two hx hy)]
  simp
theorem hasA_one {x : List UInt8} (hx : (44 : UInt8) ∉ x) (t : Cut) : hasA x t = hasX x t := by
  unfold hasA
  rw [splitC_none hx]
  simp
theorem tv_may {v : Ver} (h : v.may = true) : (tv v).1 = v.text := by unfold tv; rw [if_pos h]
theorem no_cons {c a : UInt8} {x : List UInt8} (h : c ≠ a) (hx : c ∉ x) : c ∉ a :: x := by simp [h, hx]
theorem hasX_op {op : List UInt8} {v : Ver} {cs : List Cut} (hl : v.ns.length = 4) (hm : v.may = true) (h : opCuts op v = some cs) (t : Cut) : termP (op ++ v.text) = some cs ∧ hasX (op ++ v.text) t = par cs t := by
  have e := term_op (opCuts_some.1 ⟨cs, h⟩) hl hm
  rw [h] at e
  refine ⟨e, ?_⟩
  unfold hasX
  rw [e]
/-- A cut that a set may have, by what it is. -/
theorem Cut.M.cases {c : Cut} (h : c.M) : c = botC ∨ c = topC ∨ ((c.a = 1 ∨ c.a = 2) ∧ c.v.Ok ∧ c.v.may = true) := by
  obtain ⟨⟨⟨hv, h0, h3⟩, hz⟩, hm⟩ := h
  by_cases e0 : c.a = 0
  · have := hz (by simp [Cut.edge, e0])
    left; cases c; simp only at e0 this; rw [e0, this]; rfl
  by_cases e3 : c.a = 3
  · have := hz (by simp [Cut.edge, e3])
    right; left; cases c; simp only at e3 this; rw [e3, this]; rfl
  · right; right
    exact ⟨by omega, hv, hm (by simp [Cut.edge, e0, e3])⟩
/-- terms of one alternative that has just what lies above a place -/
theorem low_has {a : Cut} (ha : a.M) (hn : a ≠ topC) : (a = botC ∧ lowT a = []) ∨ ∃ x cs, lowT a = [x] ∧ (44 : UInt8) ∉ x ∧ (124 : UInt8) ∉ x ∧ x.length ≤ (tv a.v).1.length + 2 ∧ termP x = some cs ∧ ∀ t, t.Ok → cle topC t = false → par cs t = cle a t := by
  rcases ha.cases with h | h | ⟨h, hv, hm⟩
  · left; exact ⟨h, by rw [h]; rfl⟩
  · exact absurd h hn
  · right
    have e44 := ver_no hv hm (c := 44) (.inr (.inl rfl))
    have e124 := ver_no hv hm (c := 124) (.inl rfl)
    have ea : ∀ i : Int, a.a = i → a = ⟨i, a.v⟩ := fun i hi => by cases a; simp only at hi; rw [hi]
    rcases h with h | h
    · have hk := ok1 hv
      refine ⟨[62, 61] ++ a.v.text, spl ⟨1, a.v⟩ topC, by unfold lowT; rw [if_pos h, tv_may hm]; rfl, no_cons (by decide) (no_cons (by decide) e44), no_cons (by decide) (no_cons (by decide) e124), ?_, (hasX_op hv hm rfl botC).1, fun t ht htop => ?_⟩
      · rw [tv_may hm]; simp
      · rw [par_spl hk topC_pr.1 ht, htop, ea 1 h]; simp
    · have hk := ok2 hv
      refine ⟨[62] ++ a.v.text, spl ⟨2, a.v⟩ topC, by unfold lowT; rw [if_neg (by omega), if_pos h, tv_may hm]; rfl, no_cons (by decide) e44, no_cons (by decide) e124, ?_, (hasX_op hv hm rfl botC).1, fun t ht htop => ?_⟩
      · rw [tv_may hm]; simp
      · rw [par_spl hk topC_pr.1 ht, htop, ea 2 h]; simp
theorem high_has {b : Cut} (hb : b.M) (hn : b ≠ botC) : (b = topC ∧ highT b = []) ∨ ∃ x cs, highT b = [x] ∧ (44 : UInt8) ∉ x ∧ (124 : UInt8) ∉ x ∧ x.length ≤ (tv b.v).1.length + 2 ∧ termP x = some cs ∧ ∀ t, t.Ok → cle topC t = false → par cs t = !cle b t := by
  rcases hb.cases with h | h | ⟨h, hv, hm⟩
  · exact absurd h hn
  · left; exact ⟨h, by rw [h]; rfl⟩
  · right
    have e44 := ver_no hv hm (c := 44) (.inr (.inl rfl))
    have e124 := ver_no hv hm (c := 124) (.inl rfl)
    have ea : ∀ i : Int, b.a = i → b = ⟨i, b.v⟩ := fun i hi => by cases b; simp only at hi; rw [hi]
    rcases h with h | h
    · have hk := ok1 hv
      refine ⟨[60] ++ b.v.text, spl botC ⟨1, b.v⟩, by unfold highT; rw [if_pos h, tv_may hm]; rfl, no_cons (by decide) e44, no_cons (by decide) e124, ?_, (hasX_op hv hm rfl botC).1, fun t ht htop => ?_⟩
      · rw [tv_may hm]; simp
      · rw [par_spl botC_pr.1 hk ht, cle_bot, ea 1 h]; simp
    · have hk := ok2 hv
      refine ⟨[60, 61] ++ b.v.text, spl botC ⟨2, b.v⟩, by unfold highT; rw [if_neg (by omega), if_pos h, tv_may hm]; rfl, no_cons (by decide) (no_cons (by decide) e44), no_cons (by decide) (no_cons (by decide) e124), ?_, (hasX_op hv hm rfl botC).1, fun t ht htop => ?_⟩
      · rw [tv_may hm]; simp
      · rw [par_spl botC_pr.1 hk ht, cle_bot, ea 2 h]; simp
theorem okA_one {x : List UInt8} {cs : List Cut} (hx : (44 : UInt8) ∉ x) (h : termP x = some cs) : okA x = true ∧ ∀ t, hasA x t = par cs t := by
  refine ⟨?_, fun t => ?_⟩
  · unfold okA
    rw [splitC_none hx]
    simp [h]
  · rw [hasA_one hx]
    unfold hasX
    rw [h]
theorem okA_two {x y : List UInt8} {cs ds : List Cut} (hx : (44 : UInt8) ∉ x) (hy : (44 : UInt8) ∉ y) (h : termP x = some cs) (k : termP y = some ds) : okA (Lib.join [x, y] [44]) = true ∧ ∀ t, hasA (Lib.join [x, y] [44]) t = (par cs t && par ds t) := by
  refine ⟨?_, fun t => ?_⟩
  · unfold okA
    rw [splitC_join [x, y] (by simp) (no_two hx hy)]
    simp [h, k]
  · rw [hasA_two hx hy]
    unfold hasX
    rw [h, k]
theorem join_no {c d : UInt8} (h : c ≠ d) {xs : List (List UInt8)} (hx : ∀ x ∈ xs, c ∉ x) : c ∉ Lib.join xs [d] := by
  intro hc
  rcases mem_join hc with h1 | ⟨x, h1, h2⟩
  · exact h (List.mem_singleton.1 h1)
  · exact hx x h1 h2
/-- One alternative of a set's text. -/
theorem piece_has {a b : Cut} (ha : a.M) (hb : b.M) (hab : a.cmp b < 0) : okA (pieceP a b) = true ∧ (124 : UInt8) ∉ pieceP a b ∧ ∀ t, t.Ok → cle topC t = false → hasA (pieceP a b) t = (cle a t && !cle b t) := by
  have han : a ≠ topC := fun e => by
    have := (cle_iff _ _).1 (cle_top b)
    have h2 := Cut.cmp_anti ha.1.1 hb.1.1
    rw [e] at hab h2
    omega
  have hbn : b ≠ botC := fun e => by
    have := (cle_iff _ _).1 (cle_bot a)
    have h2 := Cut.cmp_anti ha.1.1 hb.1.1
    rw [e] at hab h2
    omega
  unfold pieceP
  by_cases he : a.a = 1 ∧ b.a = 2 ∧ a.v = b.v
  · rw [if_pos he]
    obtain ⟨e1, e2, e3⟩ := he
    have ea : a = ⟨1, a.v⟩ := by cases a; simp only at e1; rw [e1]
    have eb : b = ⟨2, a.v⟩ := by cases b; simp only at e2 e3; rw [e2, e3]
    have hv := ha.1.1.1
    have hm : a.v.may = true := ha.2 (by simp [Cut.edge, e1])
    have hx := hasX_op (op := [61]) hv hm rfl
    rw [tv_may hm]
    have h44 := no_cons (c := 44) (a := 61) (by decide) (ver_no hv hm (.inr (.inl rfl)))
    have h1 := okA_one h44 (hx botC).1
    refine ⟨h1.1, no_cons (by decide) (ver_no hv hm (.inl rfl)), fun t ht htop => ?_⟩
    rw [h1.2, par_spl (ok1 hv) (ok2 hv) ht, ← ea, ← eb]
  · rw [if_neg he]
    rcases low_has ha han with ⟨hl0, hl⟩ | ⟨x, cs, hl, x44, x124, _, hx, hxp⟩ <;> rcases high_has hb hbn with ⟨hh0, hh⟩ | ⟨y, ds, hh, y44, y124, _, hy, hyp⟩
    · rw [hl, hh, List.nil_append, if_pos rfl]
      have h1 := okA_one (x := [42]) (by decide) (show termP [42] = some [botC, topC] from rfl)
      refine ⟨h1.1, by decide, fun t ht htop => ?_⟩
      rw [h1.2, par_all htop, hl0, hh0, cle_bot, htop]; rfl
    · rw [hl, hh, if_neg (by simp), List.nil_append, Lib.join_one]
      have h1 := okA_one y44 hy
      refine ⟨h1.1, y124, fun t ht htop => ?_⟩
      rw [h1.2, hyp t ht htop, hl0, cle_bot, Bool.true_and]
    · rw [hl, hh, if_neg (by simp), List.append_nil, Lib.join_one]
      have h1 := okA_one x44 hx
      refine ⟨h1.1, x124, fun t ht htop => ?_⟩
      rw [h1.2, hxp t ht htop, hh0, htop]; simp
    · rw [hl, hh, if_neg (by simp)]
      have h1 := okA_two x44 y44 hx hy
      refine ⟨h1.1, join_no (by decide) (no_two x124 y124), fun t ht htop => ?_⟩
      show hasA (Lib.join [x, y] [44]) t = _
      rw [h1.2, hxp t ht htop, hyp t ht htop]
theorem par_two {a b : Cut} {r : List Cut} (hp : Prs (a :: b :: r)) (hs : Stc (a :: b :: r)) {t : Cut} (ht : t.Ok) : par (a :: b :: r) t = ((cle a t && !cle b t) || par r t) := by
  have s1 := List.pairwise_cons.1 hs
  have s2 := List.pairwise_cons.1 s1.2
  have ka := (hp a (by simp)).1
  have kb := (hp b (by simp)).1
  have kr : Oks r := fun x hx => (hp x (by simp [hx])).1
  have hrb : ∀ d ∈ r, cle b d = true := fun d hd => (cle_iff _ _).2 (by have := s2.1 d hd; omega)
  have hab : cle a b = true := (cle_iff _ _).2 (by have := s1.1 b (by simp); omega)
  rw [par, par]
  cases h1 : cle a t with
  | false =>
    have h2 : cle b t = false := by
      cases h3 : cle b t with
      | false => rfl
      | true => rw [cle_tr ka kb ht hab h3] at h1; cases h1
    rw [h2]
    simp
  | true =>
    cases h2 : cle b t with
    | true => simp
    | false =>
      rw [par_none (above_all kb ht kr hrb h2)]
      simp
theorem even_of : ∀ {cs : List Cut}, par cs topC = false → cs.length % 2 = 0 := by
  have h : ∀ cs : List Cut, par cs topC = decide (cs.length % 2 = 1) := by
    intro cs
    induction cs with
    | nil => rfl
    | cons c cs ih =>
      rw [par, cle_top, if_pos rfl, ih, List.length_cons, Bool.eq_iff_iff]
      simp only [Bool.not_eq_true', decide_eq_false_iff_not, decide_eq_true_eq]
      omega
  intro cs hc
  rw [h cs] at hc
  have := of_decide_eq_false hc
  omega
theorem pieces_has : ∀ (cs : List Cut), (∀ c ∈ cs, c.M) → Stc cs → cs.length % 2 = 0 → (∀ p ∈ piecesP cs, okA p = true ∧ (124 : UInt8) ∉ p) ∧ ∀ t, t.Ok → cle topC t = false → (piecesP cs).any (hasA · t) = par cs t
  | [], _, _, _ => ⟨fun p hp => (by cases hp), fun t _ _ => rfl⟩
  | [_], _, _, h => by simp at h
  | a :: b :: r, hm, hs, h => by
    have s1 := List.pairwise_cons.1 hs
    have s2 := List.pairwise_cons.1 s1.2
    obtain ⟨i1, i2⟩ := pieces_has r (fun c hc => hm c (by simp [hc])) s2.2 (by simp only [List.length_cons] at h; omega)
    obtain ⟨p1, p2, p3⟩ := piece_has (hm a (by simp)) (hm b (by simp)) (s1.1 b (by simp))
    refine ⟨fun p hp => ?_, fun t ht htop => ?_⟩
    · rcases List.mem_cons.1 hp with rfl | hp
      · exact ⟨p1, p2⟩
      · exact i1 p hp
    · rw [piecesP, List.any_cons, p3 t ht htop, i2 t ht htop, par_two (fun c hc => (hm c hc).1) hs ht]
theorem pieces_ne {cs : List Cut} (h : cs ≠ []) (he : cs.length % 2 = 0) : piecesP cs ≠ [] := by
  match cs, h, he with
  | [_], _, he => simp at he
  | a :: b :: r, _, _ => simp [piecesP]
/-- A set's text is a range of the same places. -/
theorem text_back {cs : List Cut} {N : Nat} (h : IsSet cs N) : okP (textP cs) = decide ((splitC 124 (textP cs)).length ≤ 16) ∧ ∀ t, t.Ok → cle topC t = false → hasP (textP cs) t = par cs t := by
  unfold textP
  by_cases hc : cs = []
  · subst hc
    rw [if_pos rfl]
    have hx := hasX_op (op := [62]) (v := v00) rfl v00_may rfl
    have hy := hasX_op (op := [60]) (v := v00) rfl v00_may rfl
    rw [v00_text] at hx hy
    have h2 := okA_two (by decide) (by decide) (hx botC).1 (hy botC).1
    have e : splitC 124 noneT = [Lib.join [[62] ++ [48, 45, 48], [60] ++ [48, 45, 48]] [44]] := rfl
    refine ⟨?_, fun t ht htop => ?_⟩
    · rw [okP_eq, e]
      simp only [List.all_cons, List.all_nil, h2.1, Bool.and_true]
    · unfold hasP
      rw [e]
      simp only [List.any_cons, List.any_nil, Bool.or_false]
      rw [h2.2, par_spl (ok2 (v := v00) rfl) topC_pr.1 ht, par_spl botC_pr.1 (ok1 (v := v00) rfl) ht, htop, cle_bot]
      have hk : cle (⟨1, v00⟩ : Cut) ⟨2, v00⟩ = true := by decide
      cases h1 : cle (⟨2, v00⟩ : Cut) t with
      | false => rfl
      | true => rw [cle_tr (ok1 (v := v00) rfl) (ok2 (v := v00) rfl) ht hk h1]; rfl
  · rw [if_neg hc]
    have he := even_of h.ev
    obtain ⟨h1, h2⟩ := pieces_has cs h.m h.st he
    have e := splitC_join (c := 124) (piecesP cs) (pieces_ne hc he) (fun p hp => (h1 p hp).2)
    refine ⟨?_, fun t ht htop => ?_⟩
    · rw [okP_eq, e, List.all_eq_true.2 (fun p hp => (h1 p hp).1), Bool.and_true]
    · unfold hasP
      rw [e, h2 t ht htop]
end Go.Proofs.YteeijjhgdplifaaGreatDoor
