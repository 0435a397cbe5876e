/- RefdbX: plain laws of the order; contracts of Referrers, Derived, Refers. -/
import Derived.Test.YtcffmpjdonncgaaG9
import Derived.Test.YtcffmpjdonncgaaG5
namespace Go.Proofs.Ytcffmpjdonncgaa
open Go.RowKit Go.Proofs.YtcffmpjdonncgaaW.PrintWords
open Go.Proofs.Ytcffmpjdonncgaa.PRef

theorem exists_least {α : Type} (m : α → Nat) : ∀ l : List α, l ≠ [] → ∃ x ∈ l, ∀ y ∈ l, m x ≤ m y
  | [], h => (h rfl).elim
  | [a], _ => ⟨a, by simp, by simp⟩
  | a :: b :: l, _ => by
    obtain ⟨x, hx, hm⟩ := exists_least m (b :: l) (by simp)
    by_cases h : m a ≤ m x
    · refine ⟨a, by simp, fun y hy => ?_⟩
      rcases List.mem_cons.1 hy with rfl | hy
      · exact Nat.le_refl _
      · exact Nat.le_trans h (hm y hy)
    · refine ⟨x, List.mem_cons_of_mem _ hx, fun y hy => ?_⟩
      rcases List.mem_cons.1 hy with rfl | hy
      · omega
      · exact hm y hy
/-- where there is no order, a path reaches itself by another one -/
theorem ord_cycle {l : List S33} {out : List ByteArray} (hn : (l.map (·.f0)).Nodup) (hk : ∀ x ∈ l, ∀ t ∈ x.f3, t ∈ l.map (·.f0)) (h : OrdDone l out) (hl : out.length < l.length) : ∃ x ∈ l, ∃ t ∈ x.f3, t ≠ x.f0 ∧ Rch l [t] x.f0 := by
  classical
  obtain ⟨S, hS⟩ : ∃ S : List S33, S = l.filter fun x => decide (x.f0 ∉ out) := ⟨_, rfl⟩
  have hne : S ≠ [] := by
    intro e
    have : ∀ x ∈ l, x.f0 ∈ out := fun x hx => by
      rw [hS, List.filter_eq_nil_iff] at e
      simpa using e x hx
    have h2 := hn.length_le_of_subset (l₂ := out) (fun s hs => by
      obtain ⟨x, hx, rfl⟩ := List.mem_map.1 hs
      exact this x hx)
    rw [List.length_map] at h2
    omega
  have hSm : ∀ x, x ∈ S ↔ x ∈ l ∧ x.f0 ∉ out := fun x => by rw [hS, List.mem_filter]; simp
  obtain ⟨x, hx, hmin⟩ := exists_least (fun x : S33 => (RS l [x.f0]).length) S hne
  obtain ⟨hxl, hxo⟩ := (hSm x).1 hx
  have hnr : ¬ ∀ t ∈ x.f3, t ≠ x.f0 → t ∈ out := fun hc => by
    have := readyL_mem.2 ⟨x, hxl, rfl, hxo, hc⟩
    rw [h.2] at this
    cases this
  obtain ⟨t, ht⟩ := Classical.not_forall.1 hnr
  obtain ⟨ht, h2⟩ := Classical.not_imp.1 ht
  obtain ⟨htx, hto⟩ := Classical.not_imp.1 h2
  refine ⟨x, hxl, t, ht, htx, ?_⟩
  obtain ⟨y, hy, rfl⟩ := List.mem_map.1 (hk x hxl t ht)
  have hyS : y ∈ S := (hSm y).2 ⟨hy, hto⟩
  have hle := hmin y hyS
  have hxr : Rch l [x.f0] x.f0 := .root (by simp) (List.mem_map.2 ⟨x, hxl, rfl⟩)
  have hyr : Rch l [x.f0] y.f0 := .step hxr hxl ht (List.mem_map.2 ⟨y, hy, rfl⟩)
  have hsub : ∀ s, Rch l [y.f0] s → Rch l [x.f0] s := fun s hs => Rch.of (fun p hp _ => by rw [List.mem_singleton] at hp; subst hp; exact hyr) hs
  refine Classical.byContradiction fun hno => ?_
  have hnd : (x.f0 :: RS l [y.f0]).Nodup := List.nodup_cons.2 ⟨fun h => hno (RS_mem.1 h), (RS_rising _ _).nodup⟩
  have := hnd.length_le_of_subset (l₂ := RS l [x.f0]) (fun s hs => by
    rcases List.mem_cons.1 hs with rfl | hs
    · exact RS_mem.2 hxr
    · exact RS_mem.2 (hsub s (RS_mem.1 hs)))
  rw [List.length_cons] at this
  omega
theorem Ord.behind {l : List S33} {out : List ByteArray} (h : Ord l out) (hn : (l.map (·.f0)).Nodup) : ∀ i x, x ∈ l → out[i]? = some x.f0 → ∀ t ∈ x.f3, t ≠ x.f0 → t ∈ out.take i := by
  induction h with
  | nil => intro i x _ h; simp at h
  | snoc h hr ih =>
    rename_i out rest p
    intro i x hx hi t ht hne
    by_cases hlt : i < out.length
    · rw [List.take_append_of_le_length (by omega)]
      exact ih i x hx (by rwa [List.getElem?_append_left hlt] at hi) t ht hne
    · have hil := (List.getElem?_eq_some_iff.1 hi).1
      rw [List.length_append, List.length_singleton] at hil
      obtain rfl : i = out.length := by omega
      rw [List.take_left' rfl]
      rw [List.getElem?_append_right (Nat.le_refl _), Nat.sub_self] at hi
      have hp : p = x.f0 := by simpa using hi
      obtain ⟨y, hy, e, _, hc⟩ := readyL_mem.1 (show p ∈ readyL l out by rw [hr]; exact List.mem_cons_self)
      have : y = x := map_inj_nodup (·.f0) hn y hy x hx (e.trans hp)
      subst this
      exact hc t ht (by rw [hp]; exact hne)
theorem nodup_take {l : List ByteArray} (h : l.Nodup) {i : Nat} {x : ByteArray} (hi : l[i]? = some x) : x ∉ l.take i := by
  obtain ⟨hil, hge⟩ := List.getElem?_eq_some_iff.1 hi
  rw [← List.take_append_drop (i + 1) l, List.take_succ_eq_append_getElem hil, hge] at h
  have h2 := (List.nodup_append.1 h).1
  intro hm
  exact (List.nodup_append.1 h2).2.2 _ hm _ (List.mem_singleton.2 rfl) rfl

open Classical in
/-- who refers to a path -/
noncomputable def refL (l : List S33) (p : ByteArray) : List ByteArray := SU ((l.filter fun x => decide (p ∈ x.f3)).map (·.f0))
theorem refL_mem {l : List S33} {p s : ByteArray} : s ∈ refL l p ↔ ∃ x ∈ l, x.f0 = s ∧ p ∈ x.f3 := by
  unfold refL
  rw [SU_mem, List.mem_map]
  constructor
  · rintro ⟨x, hx, rfl⟩
    rw [List.mem_filter] at hx
    exact ⟨x, hx.1, rfl, by simpa using hx.2⟩
  · rintro ⟨x, hx, rfl, h⟩
    exact ⟨x, by rw [List.mem_filter]; exact ⟨hx, by simpa using h⟩, rfl⟩
open Classical in
noncomputable def refR (l : List S33) (p : ByteArray) : List ByteArray := if ∀ q ∈ [p], q ∈ l.map (·.f0) then refL l p else []
open Classical in
/-- what a derivation made -/
noncomputable def derL (l : List S33) (d : ByteArray) : List ByteArray := SU ((l.filter fun x => decide (x.f2 = d)).map (·.f0))
theorem Mdf_mem {l : List S33} {d s : ByteArray} (i : Nat) (hi : i ≤ l.length) : s ∈ mgetD (Mdf l i) d ↔ ∃ x ∈ l.take i, x.f0 = s ∧ x.f2 = d := by
  induction i with
  | zero => simp [Mdf, mgetD, mget]
  | succ i ih =>
    obtain ⟨x, hx⟩ : ∃ x, l[i]? = some x := ⟨_, List.getElem?_eq_getElem (show i < l.length by omega)⟩
    obtain ⟨hil, hge⟩ := List.getElem?_eq_some_iff.1 hx
    rw [← Mdf_snoc hx, mgetD_mput, List.take_succ_eq_append_getElem hil, hge]
    by_cases e : d = x.f2
    · subst e
      rw [if_pos rfl, List.mem_append, ih (by omega), List.mem_singleton]
      constructor
      · rintro (⟨y, h1, h2⟩ | rfl)
        · exact ⟨y, List.mem_append_left _ h1, h2⟩
        · exact ⟨x, by simp, rfl, rfl⟩
      · rintro ⟨y, h1, h2, h3⟩
        rcases List.mem_append.1 h1 with h1 | h1
        · exact .inl ⟨y, h1, h2, h3⟩
        · rw [List.mem_singleton] at h1; subst h1; exact .inr h2.symm
    · rw [if_neg e, ih (by omega)]
      constructor
      · rintro ⟨y, h1, h2⟩
        exact ⟨y, List.mem_append_left _ h1, h2⟩
      · rintro ⟨y, h1, h2, h3⟩
        rcases List.mem_append.1 h1 with h1 | h1
        · exact ⟨y, h1, h2, h3⟩
        · rw [List.mem_singleton] at h1; subst h1; exact (e h3.symm).elim
theorem SU_der {l : List S33} {d : ByteArray} : SU (mgetD (Mdf l l.length) d) = derL l d := by
  refine SU_congr fun s => ?_
  rw [Mdf_mem _ (Nat.le_refl _), List.take_length, List.mem_map]
  constructor
  · rintro ⟨x, hx, rfl, h⟩
    exact ⟨x, by rw [List.mem_filter]; exact ⟨hx, by simpa using h⟩, rfl⟩
  · rintro ⟨x, hx, rfl⟩
    rw [List.mem_filter] at hx
    exact ⟨x, hx.1, rfl, by simpa using hx.2⟩
theorem SU_back {l : List S33} {k : List (ByteArray × List ByteArray)} (hp : k.Perm (M1f l l.length)) {p : ByteArray} : SU (mgetD (backOf k) p) = refL l p :=
  rising_ext (SU_rising _) (SU_rising _) fun s => by rw [SU_mem, back_mem hp]; exact refL_mem.symm

theorem referrers_ok (w : World) (g : Nat) (l : List S33) (p : ByteArray) (h : GrOf w g l) (hl : l.length ≤ 4096) (hnd : (l.map (·.f0)).Nodup) :
    Calls Try.prog 16 #[.pointer (some ⟨g, 0, none⟩), .string p] w fun e w' => ∃ v, e = .returned (.tuple #[v, .int .i64 (knownErr l [p])]) ∧ Made w (refR l p) v w' := by
  have hb1 : Below w.heap.size w (w.alloc (.cells #[.string p] 9)) := (Below.refl _ _).alloc (Nat.le_refl _) _
  have HK := Lib.hid (known_ok _ _ g l _ 1 1 [p] (h.below hb1) (Sl.one w 9 (.string p)) (by omega))
  obtain ⟨w0, r, b, e, d, k, hst, hpk⟩ := h
  obtain ⟨q0, q1, q2, q3, q4⟩ := (hst.later hb1).cells
  obtain ⟨A, c, hlk, ho⟩ := hst.backLook p
  have hlk1 := hlk _ hb1
  have hbl := back_len hpk hnd p
  have HS := Lib.hid (sorted_made _ _ A _ c _ (Sl.of_own (own_below ho hb1)) (by omega))
  rw [SU_back hpk] at HS
  obtain ⟨nb, hnb⟩ : ∃ nb, nb = (mgetD (backOf k) p).length := ⟨_, rfl⟩
  rw [← hnb] at hlk1 HS
  have HB1 := Lib.hid hb1
  clear hlk ho hbl hst hpk hb1 hnb
  go_enter Try.func16, Try.ntmps16
  go_wp2_with fail
  refine HK.out.mono ?_
  rintro e_ w' ⟨rfl, rfl⟩
  by_cases hkn : ∀ q ∈ [p], q ∈ l.map (·.f0)
  · have e1 : knownErr l [p] = 0 := by unfold knownErr; rw [if_pos hkn]
    have e2 : refR l p = refL l p := by unfold refR; rw [if_pos hkn]
    rw [e1]
    have HE1 := Lib.hid e1
    have HE2 := Lib.hid e2
    clear e1 e2 hkn HK
    go_wp2_with fail
    refine HS.out.mono ?_
    rintro e_ w3 ⟨v, rfl, hmd⟩
    have HMD := Lib.hid (hmd.base HB1.out)
    clear hmd HS HB1
    go_wp2_with fail
    go_ret2
    exact ⟨v, by rw [HE1.out]; rfl, by rw [HE2.out]; exact HMD.out⟩
  · have e1 : knownErr l [p] = 14 := by unfold knownErr; rw [if_neg hkn]
    have e2 : refR l p = [] := by unfold refR; rw [if_neg hkn]
    rw [e1]
    have HE1 := Lib.hid e1
    have HE2 := Lib.hid e2
    clear e1 e2 hkn HK HS
    go_wp2_with fail
    go_ret2
    refine ⟨.slice none 0 0, by rw [HE1.out]; rfl, ?_⟩
    rw [HE2.out]
    exact ⟨none, 0, rfl, own_nil0 _ _ _, fun b hb => by simp [Value.ownBlock] at hb, HB1.out⟩

theorem NewSt.derLook {w0 w : World} {X : Nat → Prop} {g r b e d : Nat} {M1 Mb Md : List (ByteArray × List ByteArray)} {E : List ((ByteArray × ByteArray) × Value)} (h : NewSt w0 w X g r b e d M1 Mb Md E) (p : ByteArray) : ∃ A c, (Instr.lookup 39 (.map (some d)) (.string p) false).run Try.prog w = .ok (.slice A (mgetD Md p).length c) w ∧ w.ownsRow 0 9 1 (.slice A (mgetD Md p).length c) (mgetD Md p).length (strs (mgetD Md p)) := by
  obtain ⟨v, A, c, rfl, h1, h2, _⟩ := h.toDer p
  exact ⟨A, c, h1 w (Below.refl _ _), h2⟩
theorem derived_ok (w : World) (g : Nat) (l : List S33) (p : ByteArray) (h : GrOf w g l) (hl : l.length ≤ 4096) :
    Calls Try.prog 17 #[.pointer (some ⟨g, 0, none⟩), .string p] w fun e w' => ∃ v, e = .returned v ∧ Made w (derL l p) v w' := by
  have HNO := Lib.hid h.isnt
  obtain ⟨w0, r, b, e, d, k, hst, hpk⟩ := h
  obtain ⟨q0, q1, q2, q3, q4⟩ := hst.cells
  obtain ⟨A, c, hlk, ho⟩ := hst.derLook p
  have hbl := Mdf_le l l.length p
  have HS := Lib.hid (sorted_made _ _ A _ c _ (Sl.of_own ho) (by omega))
  rw [SU_der] at HS
  obtain ⟨nb, hnb⟩ : ∃ nb, nb = (mgetD (Mdf l l.length) p).length := ⟨_, rfl⟩
  rw [← hnb] at hlk HS
  clear ho hbl hst hpk hnb
  go_enter Try.func17, Try.ntmps17
  go_wp2_with fail
  refine HNO.out.mono ?_
  rintro e_ w' ⟨rfl, rfl⟩
  clear HNO
  go_wp2_with fail
  refine HS.out.mono ?_
  rintro e_ w3 ⟨v, rfl, hmd⟩
  have HMD := Lib.hid hmd
  clear hmd HS
  go_wp2_with fail
  go_ret
  exact ⟨v, rfl, HMD.out⟩
theorem refers_ok (w : World) (g : Nat) (l : List S33) (x : S33) (p : ByteArray) (h : GrOf w g l) (hnd : (l.map (·.f0)).Nodup) (hx : x ∈ l) :
    Calls Try.prog 18 #[.pointer (some ⟨g, 0, none⟩), .string x.f0, .string p] w fun e w' => e = .returned (.bool (inB x.f3 p)) ∧ w = w' := by
  have HNO := Lib.hid h.isnt
  obtain ⟨w0, r, b, e, d, k, hst, hpk⟩ := h
  obtain ⟨q0, q1, q2, q3, q4⟩ := hst.cells
  have hlk := hst.edgeLook hpk hnd hx p
  obtain ⟨bb, hbb⟩ : ∃ bb, bb = inB x.f3 p := ⟨_, rfl⟩
  rw [← hbb] at hlk ⊢
  clear hst hpk hbb
  go_enter Try.func18, Try.ntmps18
  go_wp2_with fail
  refine HNO.out.mono ?_
  rintro e_ w' ⟨rfl, rfl⟩
  clear HNO
  go_wp2_with fail
  go_ret
  exact ⟨rfl, rfl⟩
end Go.Proofs.Ytcffmpjdonncgaa
/- RefdbX: the graph hangs on nothing that was there ahead of it. -/
namespace Go.Proofs.Ytcffmpjdonncgaa
open Go.RowKit Go.Proofs.YtcffmpjdonncgaaW.PrintWords
open Go.Proofs.Ytcffmpjdonncgaa.PRef

theorem NewSt.turned {w0 w w' : World} {G : Nat → Prop} {g r b e d : Nat} {M1 Mb Md : List (ByteArray × List ByteArray)} {E : List ((ByteArray × ByteArray) × Value)} (h : NewSt w0 w (fun _ => False) g r b e d M1 Mb Md E) (hm : Mod G w w') (hG : ∀ x, G x → x < w0.heap.size) :
    NewSt { w' with heap := #[] } w' (fun _ => False) g r b e d M1 Mb Md E := by
  obtain ⟨⟨Fr, Fb, Fd, D1, Db, Dd, hs, hlo, hX⟩, hbel⟩ := h
  have no : ∀ x, Fr x ∨ Fb x ∨ Fd x ∨ x = e ∨ x = g → ¬ G x := fun x hx hg => by have := hlo x hx; have := hG x hg; omega
  refine ⟨⟨Fr, Fb, Fd, D1, Db, Dd, ⟨hs.blk.mod hm (no g (.inr (.inr (.inr (.inr rfl))))), hs.refs.mod hm (fun x hx => no x (.inl hx)), hs.back.mod hm (fun x hx => no x (.inr (.inl hx))), hs.der.mod hm (fun x hx => no x (.inr (.inr (.inl hx)))), hs.edges.mod hm (no e (.inr (.inr (.inr (.inl rfl))))), hs.rb, hs.rd, hs.bd, hs.re, hs.be, hs.de, hs.rg, hs.bg, hs.dg, hs.eg⟩, fun x _ => Nat.zero_le _, fun x hx => hx.elim⟩, ?_⟩
  exact ⟨rfl, rfl, rfl, Nat.zero_le _, fun i hi => absurd hi (Nat.not_lt_zero _)⟩
theorem GrOf.turned {w0 w w' : World} {G : Nat → Prop} {g r b e d : Nat} {l : List S33} {k : List (ByteArray × List ByteArray)} (h : NewSt w0 w (fun _ => False) g r b e d (M1f l l.length) (backOf k) (Mdf l l.length) (edgeOf k)) (hp : k.Perm (M1f l l.length)) (hm : Mod G w w') (hG : ∀ x, G x → x < w0.heap.size) : GrOf w' g l :=
  ⟨_, r, b, e, d, k, h.turned hm hG, hp⟩

/-- infos in memory of their own, with their rows -/
theorem own_rows {w : World} {base : Nat} {ok : Nat → Prop} {v : Value} {l : List S33} (h : Kd.R k33 33 w base ok v l) (hp : 0 < l.length) : ∃ b c, v = .slice (some ⟨b, 0, none⟩) l.length c ∧ l.length ≤ c ∧ base ≤ b ∧ b < w.heap.size ∧ (∃ cells, w.heap[b]? = some (.cells cells 33 (0, 0))) ∧
    ∀ j x, l[j]? = some x → ∃ A3 c3, w.cell? ⟨b, j * 4 + 3, none⟩ = some (.slice A3 x.f3.length c3) ∧ w.ownsRow base 9 1 (.slice A3 x.f3.length c3) x.f3.length (strs x.f3) := by
  obtain ⟨b, c, hv, hb, hl, cells, hcl⟩ := Kd.R_form h hp
  obtain ⟨_, inner, ho, hr⟩ := h
  obtain ⟨_, _, hv2, hcap, _⟩ := own_form ho
  subst hv
  simp only [Value.slice.injEq] at hv2
  refine ⟨b, c, rfl, by rw [hv2.2.2]; exact hcap, hb, hl, ⟨cells, hcl⟩, fun j x hx => ?_⟩
  have hM := hr.2 j x hx
  obtain ⟨v3, hcs, hR⟩ := k33_openM hM
  have ho3 := own_of_Rs hR
  obtain ⟨A3, c3, rfl, _, _⟩ := own_form ho3
  refine ⟨A3, c3, ?_, ho3⟩
  have hi : inner[j * 4 + 3]? = some (.slice A3 x.f3.length c3) := by
    have e : ((inner.drop (j * k33.sz)).take k33.sz)[3]? = some (.slice A3 x.f3.length c3) := by rw [hcs]; rfl
    rw [List.getElem?_take, List.getElem?_drop] at e
    split at e
    · exact e
    · cases e
  have := ho.cells rfl (j * 4 + 3) _ hi
  rwa [add_lit0, Nat.zero_add] at this

theorem own_okR (w : World) (A : Option Addr) (n c : Nat) (l : List S33) (h : Kd.C k33 w A n l) (hc : n ≤ c) (hl : l.length ≤ 1000000000) (hf : ∀ x ∈ l, x.f3.length ≤ 1000000000000) :
    Calls Try.prog 10 #[.slice A n c] w fun e w' => ∃ v, e = .returned v ∧ Kd.R k33 33 w' w.heap.size (fun _ => True) v l ∧ Below w.heap.size w w' := by
  obtain rfl : l.length = n := h.1
  have hrun : stillroomlaw12_own.f (l.length + 1) l = some l := by
    unfold stillroomlaw12_own.f
    have := own_l0 l hl hf l.length (l.length + 1) 0 (Nat.zero_le _) (by omega) (by omega)
    simpa using this
  refine (stillroomlaw12_own.calls (l.length + 1) A c l l w h hc hrun).mono ?_
  rintro e w' ⟨v, rfl, hs, hb⟩
  exact ⟨v, rfl, Kd.S_R hs, hb⟩

/-- a cell that is written leaves rows rows -/
theorem own_turned {w : World} {base n : Nat} {e : TypeId} {v : Value} {xs : List Value} (h : w.ownsRow base e 1 v n xs) (g i : Nat) (u : Value) : ∃ xs', (w.setCell ⟨g, i, none⟩ u).ownsRow base e 1 v n xs' := by
  rcases h.2 with ⟨hv, h0⟩ | ⟨k, cap, cur, hv, hb, hh, hn, hc, hs, ht⟩
  · exact ⟨xs, h.1, .inl ⟨hv, h0⟩⟩
  · by_cases ek : k = g
    · subst ek
      have h2 := blk_set hh i u
      have hl : (cur.setIfInBounds i u).toList.length = cap * 1 := by rw [Array.length_toList, Array.size_setIfInBounds]; exact hs
      exact ⟨(cur.setIfInBounds i u).toList.take (n * 1), by rw [List.length_take, hl]; omega, .inr ⟨k, cap, _, hv, hb, h2, hn, hc, by rw [Array.size_setIfInBounds]; exact hs, rfl⟩⟩
    · exact ⟨xs, own_setCell h (by rw [hv]; simp only [Value.ownBlock, ne_eq, Option.some.injEq]; exact ek) u⟩
end Go.Proofs.Ytcffmpjdonncgaa
