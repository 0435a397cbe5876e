/- RefdbX: the graph in memory. -/
import Derived.Test.YtcffmpjdonncgaaSu
import Derived.Test.YtcffmpjdonncgaaBr
import Derived.Test.YtcffmpjdonncgaaPRefx0
namespace Go.Proofs.Ytcffmpjdonncgaa
open Go.RowKit Go.Proofs.YtcffmpjdonncgaaW.PrintWords
open Go.Proofs.Ytcffmpjdonncgaa.PRef (S33 k33 k33_open z33)

noncomputable abbrev KS : Keys Try.prog 9 ByteArray := Keys.ofStr Try.underlying9
noncomputable abbrev KE : Keys Try.prog 60 (ByteArray × ByteArray) := Keys.ofPair (s := 9) Try.underlying9 rfl rfl rfl rfl (by decide) (by decide) Try.isAgg9 (by kernel_rfl) Try.underlying60

/-- an info that is read -/
theorem info_at {w : World} {A : Option Addr} {n : Nat} {l : List S33} (h : Kd.C k33 w A n l) : l.length = n ∧ (A = none → n = 0) ∧
    (0 < n → ∃ b o, A = some ⟨b, o, none⟩ ∧ b < w.heap.size ∧ ∀ j x, l[j]? = some x → ∃ A3 c3, w.cell? ⟨b, o + j * 4, none⟩ = some (.string x.f0) ∧ w.cell? ⟨b, o + j * 4 + 1, none⟩ = some (.string x.f1) ∧ w.cell? ⟨b, o + j * 4 + 2, none⟩ = some (.string x.f2) ∧
      w.cell? ⟨b, o + j * 4 + 3, none⟩ = some (.slice A3 x.f3.length c3) ∧ Sl w (fun b => b < w.heap.size) 1 (.slice A3 x.f3.length c3) x.f3.length (strs x.f3)) := by
  obtain ⟨h1, h2, h3⟩ := C_row h (by decide)
  refine ⟨h1, h2, fun hn => ?_⟩
  obtain ⟨b, o, hA, hb, hc⟩ := h3 hn
  refine ⟨b, o, hA, hb, fun j x hx => ?_⟩
  obtain ⟨c, _, hk, hcc⟩ := hc j x hx
  obtain ⟨A3, c3, rfl, hl, hC⟩ := k33_open hk
  have h0 := hcc 0 _ rfl
  have h1 := hcc 1 _ rfl
  have h2 := hcc 2 _ rfl
  have h3 := hcc 3 _ rfl
  exact ⟨A3, c3, h0, h1, h2, h3, sl_of_C hC hl⟩

structure GrSt (w : World) (g r b e d : Nat) (Fr Fb Fd : Nat → Prop) (M1 Mb Md : List (ByteArray × List ByteArray)) (D1 Db Dd : List (ByteArray × Value)) (E : List ((ByteArray × ByteArray) × Value)) : Prop where
  blk : Blk w g 42 [.map (some r), .map (some b), .map (some e), .map (some d)]
  refs : SM KS 9 w Fr r M1 D1
  back : SM KS 9 w Fb b Mb Db
  der : SM KS 9 w Fd d Md Dd
  edges : MapAt KE w e E
  rb : ∀ x, Fr x → ¬ Fb x
  rd : ∀ x, Fr x → ¬ Fd x
  bd : ∀ x, Fb x → ¬ Fd x
  re : ¬ Fr e
  be : ¬ Fb e
  de : ¬ Fd e
  rg : ¬ Fr g
  bg : ¬ Fb g
  dg : ¬ Fd g
  eg : e ≠ g
section
variable {w w' w1 : World} {g r b e d : Nat} {Fr Fb Fd G X : Nat → Prop} {M1 Mb Md : List (ByteArray × List ByteArray)} {D1 Db Dd : List (ByteArray × Value)} {E : List ((ByteArray × ByteArray) × Value)}
theorem GrSt.below (h : GrSt w g r b e d Fr Fb Fd M1 Mb Md D1 Db Dd E) (hb : Below w.heap.size w w') : GrSt w' g r b e d Fr Fb Fd M1 Mb Md D1 Db Dd E :=
  ⟨h.blk.below' hb, h.refs.below hb, h.back.below hb, h.der.below hb, h.edges.below hb, h.rb, h.rd, h.bd, h.re, h.be, h.de, h.rg, h.bg, h.dg, h.eg⟩
theorem GrSt.cells (h : GrSt w g r b e d Fr Fb Fd M1 Mb Md D1 Db Dd E) : w.cell? ⟨g, 0, none⟩ = some (.map (some r)) ∧ w.cell? ⟨g, 1, none⟩ = some (.map (some b)) ∧ w.cell? ⟨g, 2, none⟩ = some (.map (some e)) ∧ w.cell? ⟨g, 3, none⟩ = some (.map (some d)) ∧ g < w.heap.size :=
  ⟨by rw [h.blk.cell]; rfl, by rw [h.blk.cell]; rfl, by rw [h.blk.cell]; rfl, by rw [h.blk.cell]; rfl, h.blk.lt⟩

/-- the graph that New makes: all that it has lies above base -/
structure NewSt (w0 w : World) (X : Nat → Prop) (g r b e d : Nat) (M1 Mb Md : List (ByteArray × List ByteArray)) (E : List ((ByteArray × ByteArray) × Value)) : Prop where
  st : ∃ Fr Fb Fd D1 Db Dd, GrSt w g r b e d Fr Fb Fd M1 Mb Md D1 Db Dd E ∧ (∀ x, Fr x ∨ Fb x ∨ Fd x ∨ x = e ∨ x = g → w0.heap.size ≤ x) ∧ (∀ x, X x → x < w.heap.size ∧ ¬ Fr x ∧ ¬ Fb x ∧ ¬ Fd x ∧ x ≠ e ∧ x ≠ g)
  bel : Below w0.heap.size w0 w
theorem NewSt.later {w0 : World} (h : NewSt w0 w X g r b e d M1 Mb Md E) (hb : Below w.heap.size w w') : NewSt w0 w' X g r b e d M1 Mb Md E := by
  obtain ⟨⟨Fr, Fb, Fd, D1, Db, Dd, hs, hlo, hX⟩, hbel⟩ := h
  exact ⟨⟨Fr, Fb, Fd, D1, Db, Dd, hs.below hb, hlo, fun x hx => ⟨by have := (hX x hx).1; have := hb.size; omega, (hX x hx).2⟩⟩, hbel.trans (hb.mono hbel.size)⟩
theorem NewSt.cells {w0 : World} (h : NewSt w0 w X g r b e d M1 Mb Md E) : w.cell? ⟨g, 0, none⟩ = some (.map (some r)) ∧ w.cell? ⟨g, 1, none⟩ = some (.map (some b)) ∧ w.cell? ⟨g, 2, none⟩ = some (.map (some e)) ∧ w.cell? ⟨g, 3, none⟩ = some (.map (some d)) ∧ g < w.heap.size := by
  obtain ⟨⟨_, _, _, _, _, _, hs, _, _⟩, _⟩ := h
  exact hs.cells

theorem NewSt.keep {w0 : World} (h : NewSt w0 w X g r b e d M1 Mb Md E) (hb : Below w.heap.size w w') : NewSt w0 w' (fun x => X x ∨ (w.heap.size ≤ x ∧ x < w'.heap.size)) g r b e d M1 Mb Md E := by
  obtain ⟨⟨Fr, Fb, Fd, D1, Db, Dd, hs, hlo, hX⟩, hbel⟩ := h
  have hs1 := hb.size
  refine ⟨⟨Fr, Fb, Fd, D1, Db, Dd, hs.below hb, hlo, fun x hx => ?_⟩, hbel.trans (hb.mono hbel.size)⟩
  rcases hx with hx | hx
  · exact ⟨by have := (hX x hx).1; omega, (hX x hx).2⟩
  · exact ⟨hx.2, fun h => by have := hs.refs.lt x h; omega, fun h => by have := hs.back.lt x h; omega, fun h => by have := hs.der.lt x h; omega, fun h => by have := hs.edges.lt; omega, fun h => by have := hs.blk.lt; omega⟩
theorem NewSt.weaken {w0 : World} {Y : Nat → Prop} (h : NewSt w0 w X g r b e d M1 Mb Md E) (hy : ∀ x, Y x → X x) : NewSt w0 w Y g r b e d M1 Mb Md E := by
  obtain ⟨⟨Fr, Fb, Fd, D1, Db, Dd, hs, hlo, hX⟩, hbel⟩ := h
  exact ⟨⟨Fr, Fb, Fd, D1, Db, Dd, hs, hlo, fun x hx => hX x (hy x hx)⟩, hbel⟩
/-- g.refs[p] = a fresh row -/
theorem NewSt.putRefs {w0 : World} (h : NewSt w0 w X g r b e d M1 Mb Md E) (hb : Below w.heap.size w w1) (p : ByteArray) {v : Value} {l : List ByteArray} (ho : w1.ownsRow 0 9 1 v l.length (strs l)) (hf : ∀ q, v.ownBlock = some q → w.heap.size ≤ q) :
    ∃ w2, (Instr.mapUpdate 39 (.map (some r)) (.string p) v).run Try.prog w1 = .ok () w2 ∧ NewSt w0 w2 X g r b e d (mput M1 p l) Mb Md E ∧ Agree X w w2 := by
  obtain ⟨⟨Fr, Fb, Fd, D1, Db, Dd, hs, hlo, hX⟩, hbel⟩ := h
  obtain ⟨w2, hrun, hsm, hm⟩ := hs.refs.put (H := fun _ => False) (mt := 39) (st := 23) Try.underlying39 p (Mod.of_below hb) (fun _ _ h => h.elim) ho (fun q hq => ⟨fun hF => by have := hs.refs.lt q hF; have := hf q hq; omega, .inr (hf q hq)⟩)
  have hs1 := hb.size
  have hs2 := hm.size
  have hs0 := hbel.size
  have hr := hs.refs.in_
  have hb1 := hs.below hb
  have hag : Agree X w w2 := fun x hx => (hm.block x (by have := (hX x hx).1; omega) (fun e => (hX x hx).2.1 (by rw [e]; exact hr))).trans (hb.block x (hX x hx).1)
  refine ⟨w2, hrun, ⟨⟨_, Fb, Fd, _, Db, Dd, ⟨hb1.blk.mod hm (fun e => hs.rg (by rw [e]; exact hr)), hsm, hb1.back.mod hm (fun x hx e => hs.rb r hr (by rw [← e]; exact hx)), hb1.der.mod hm (fun x hx e => hs.rd r hr (by rw [← e]; exact hx)), hb1.edges.mod hm (fun e => hs.re (by rw [e]; exact hr)), ?_, ?_, hs.bd, ?_, hs.be, hs.de, ?_, hs.bg, hs.dg, hs.eg⟩, ?_, fun x hx => ⟨by have := (hX x hx).1; omega, fun h => h.elim (hX x hx).2.1 (fun h => by have := (hX x hx).1; omega), (hX x hx).2.2⟩⟩, ?_⟩, hag⟩
  · exact fun x hx => hx.elim (hs.rb x) (fun hx hy => by have := hs.back.lt x hy; omega)
  · exact fun x hx => hx.elim (hs.rd x) (fun hx hy => by have := hs.der.lt x hy; omega)
  · exact fun hx => hx.elim hs.re (fun hx => by have := hs.edges.lt; omega)
  · exact fun hx => hx.elim hs.rg (fun hx => by have := hs.blk.lt; omega)
  · rintro x ((hx | hx) | hx | hx | hx | hx)
    · exact hlo x (.inl hx)
    · omega
    · exact hlo x (.inr (.inl hx))
    · exact hlo x (.inr (.inr (.inl hx)))
    · exact hlo x (.inr (.inr (.inr (.inl hx))))
    · exact hlo x (.inr (.inr (.inr (.inr hx))))
  · exact (hbel.trans (hb.mono hs0)).trans (hm.below (by omega) (fun x hx => by rw [hx]; exact hlo r (.inl hr)))

/-- g.back[a], and what follows an append to it -/
theorem NewSt.toBack {w0 : World} (h : NewSt w0 w X g r b e d M1 Mb Md E) (a : ByteArray) : ∃ v A c, v = .slice A (mgetD Mb a).length c ∧ (∀ w', Below w.heap.size w w' → (Instr.lookup 39 (.map (some b)) (.string a) false).run Try.prog w' = .ok v w') ∧ w.ownsRow 0 9 1 v (mgetD Mb a).length (strs (mgetD Mb a)) ∧
    ∀ w1 v1 s, Mod (fun x => v.ownBlock = some x) w w1 → w1.ownsRow 0 9 1 v1 ((mgetD Mb a).length + 1) (strs (mgetD Mb a) ++ [.string s]) → (∀ x, v1.ownBlock = some x → v.ownBlock = some x ∨ w.heap.size ≤ x) →
      ∃ w2, (Instr.mapUpdate 39 (.map (some b)) (.string a) v1).run Try.prog w1 = .ok () w2 ∧ NewSt w0 w2 X g r b e d M1 (mput Mb a (mgetD Mb a ++ [s])) Md E ∧ Agree (fun x => X x ∨ x = r) w w2 := by
  obtain ⟨⟨Fr, Fb, Fd, D1, Db, Dd, hs, hlo, hX⟩, hbel⟩ := h
  obtain ⟨v, hrun, _, hrow, hve⟩ := hs.back.look (mt := 39) (st := 23) Try.underlying39 zeroStrs a
  obtain ⟨A, c, hv, _, _⟩ := hrow.form
  refine ⟨v, A, c, hv, fun w' hb => (by obtain ⟨v', hr, _, _, e⟩ := (hs.back.below hb).look (mt := 39) (st := 23) Try.underlying39 zeroStrs a; rw [hve, ← e]; exact hr), hrow.1, fun w1 v1 s hm ho hat => ?_⟩
  have hva : ∀ x, v.ownBlock = some x → ∃ u, mget Db a = some u ∧ u.ownBlock = some x := fun x hx => by
    cases hd : mget Db a with
    | none => rw [hd] at hve; rw [hve] at hx; simp [Value.ownBlock] at hx
    | some u => rw [hd] at hve; exact ⟨u, rfl, by rw [← hx, hve]; rfl⟩
  obtain ⟨w2, hrun2, hsm, hm2⟩ := hs.back.put (w1 := w1) (mt := 39) (st := 23) Try.underlying39 a (v' := v1) (l' := mgetD Mb a ++ [s]) hm (fun x _ hx => hva x hx) (by rw [strs_append, List.length_append]; exact ho)
    (fun x hx => ⟨fun hF => (hat x hx).elim (hva x) (fun h => by have := hs.back.lt x hF; omega), (hat x hx).imp (fun h => hrow.2 x h) id⟩)
  have hs1 := hm.size
  have hs2 := hm2.size
  have hs0 := hbel.size
  have hb := hs.back.in_
  have hout : ∀ x, v.ownBlock = some x → Fb x := fun x hx => hrow.2 x hx
  have hm3 : Mod (fun x => Fb x) w w2 := (hm.mono (fun x _ hx => hout x hx)).trans hm2 (fun x _ hx => by rw [hx]; exact hb)
  have hag : Agree (fun x => X x ∨ x = r) w w2 := fun x hx => hx.elim (fun hx => hm3.block x (hX x hx).1 (hX x hx).2.2.1) (fun hx => hm3.block x (by rw [hx]; exact hs.refs.map.lt) (by rw [hx]; exact hs.rb r hs.refs.in_))
  refine ⟨w2, hrun2, ⟨⟨Fr, _, Fd, D1, _, Dd, ⟨hs.blk.mod hm3 hs.bg, hs.refs.mod hm3 hs.rb, hsm, hs.der.mod hm3 (fun x hx hy => hs.bd x hy hx), hs.edges.mod hm3 hs.be, ?_, hs.rd, ?_, hs.re, ?_, hs.de, hs.rg, ?_, hs.dg, hs.eg⟩, ?_, fun x hx => ⟨by have := (hX x hx).1; omega, (hX x hx).2.1, fun h => h.elim (hX x hx).2.2.1 (fun h => by have := (hX x hx).1; omega), (hX x hx).2.2.2⟩⟩, ?_⟩, hag⟩
  · exact fun x hx hy => hy.elim (hs.rb x hx) (fun hy => by have := hs.refs.lt x hx; omega)
  · exact fun x hx hy => hx.elim (fun hx => hs.bd x hx hy) (fun hx => by have := hs.der.lt x hy; omega)
  · exact fun hx => hx.elim hs.be (fun hx => by have := hs.edges.lt; omega)
  · exact fun hx => hx.elim hs.bg (fun hx => by have := hs.blk.lt; omega)
  · rintro x (hx | (hx | hx) | hx | hx | hx)
    · exact hlo x (.inl hx)
    · exact hlo x (.inr (.inl hx))
    · omega
    · exact hlo x (.inr (.inr (.inl hx)))
    · exact hlo x (.inr (.inr (.inr (.inl hx))))
    · exact hlo x (.inr (.inr (.inr (.inr hx))))
  · exact hbel.trans (hm3.below hs0 (fun x hx => hlo x (.inr (.inl hx))))

/-- g.derived[a], and what follows an append to it -/
theorem NewSt.toDer {w0 : World} (h : NewSt w0 w X g r b e d M1 Mb Md E) (a : ByteArray) : ∃ v A c, v = .slice A (mgetD Md a).length c ∧ (∀ w', Below w.heap.size w w' → (Instr.lookup 39 (.map (some d)) (.string a) false).run Try.prog w' = .ok v w') ∧ w.ownsRow 0 9 1 v (mgetD Md a).length (strs (mgetD Md a)) ∧
    ∀ w1 v1 s, Mod (fun x => v.ownBlock = some x) w w1 → w1.ownsRow 0 9 1 v1 ((mgetD Md a).length + 1) (strs (mgetD Md a) ++ [.string s]) → (∀ x, v1.ownBlock = some x → v.ownBlock = some x ∨ w.heap.size ≤ x) →
      ∃ w2, (Instr.mapUpdate 39 (.map (some d)) (.string a) v1).run Try.prog w1 = .ok () w2 ∧ NewSt w0 w2 X g r b e d M1 Mb (mput Md a (mgetD Md a ++ [s])) E ∧ Agree (fun x => X x ∨ x = r) w w2 := by
  obtain ⟨⟨Fr, Fb, Fd, D1, Db, Dd, hs, hlo, hX⟩, hbel⟩ := h
  obtain ⟨v, hrun, _, hrow, hve⟩ := hs.der.look (mt := 39) (st := 23) Try.underlying39 zeroStrs a
  obtain ⟨A, c, hv, _, _⟩ := hrow.form
  refine ⟨v, A, c, hv, fun w' hb => (by obtain ⟨v', hr, _, _, e⟩ := (hs.der.below hb).look (mt := 39) (st := 23) Try.underlying39 zeroStrs a; rw [hve, ← e]; exact hr), hrow.1, fun w1 v1 s hm ho hat => ?_⟩
  have hva : ∀ x, v.ownBlock = some x → ∃ u, mget Dd a = some u ∧ u.ownBlock = some x := fun x hx => by
    cases hd : mget Dd a with
    | none => rw [hd] at hve; rw [hve] at hx; simp [Value.ownBlock] at hx
    | some u => rw [hd] at hve; exact ⟨u, rfl, by rw [← hx, hve]; rfl⟩
  obtain ⟨w2, hrun2, hsm, hm2⟩ := hs.der.put (w1 := w1) (mt := 39) (st := 23) Try.underlying39 a (v' := v1) (l' := mgetD Md a ++ [s]) hm (fun x _ hx => hva x hx) (by rw [strs_append, List.length_append]; exact ho)
    (fun x hx => ⟨fun hF => (hat x hx).elim (hva x) (fun h => by have := hs.der.lt x hF; omega), (hat x hx).imp (fun h => hrow.2 x h) id⟩)
  have hs1 := hm.size
  have hs2 := hm2.size
  have hs0 := hbel.size
  have hd := hs.der.in_
  have hout : ∀ x, v.ownBlock = some x → Fd x := fun x hx => hrow.2 x hx
  have hm3 : Mod (fun x => Fd x) w w2 := (hm.mono (fun x _ hx => hout x hx)).trans hm2 (fun x _ hx => by rw [hx]; exact hd)
  have hag : Agree (fun x => X x ∨ x = r) w w2 := fun x hx => hx.elim (fun hx => hm3.block x (hX x hx).1 (hX x hx).2.2.2.1) (fun hx => hm3.block x (by rw [hx]; exact hs.refs.map.lt) (by rw [hx]; exact hs.rd r hs.refs.in_))
  refine ⟨w2, hrun2, ⟨⟨Fr, Fb, _, D1, Db, _, ⟨hs.blk.mod hm3 hs.dg, hs.refs.mod hm3 hs.rd, hs.back.mod hm3 hs.bd, hsm, hs.edges.mod hm3 hs.de, hs.rb, ?_, ?_, hs.re, hs.be, ?_, hs.rg, hs.bg, ?_, hs.eg⟩, ?_, fun x hx => ⟨by have := (hX x hx).1; omega, (hX x hx).2.1, (hX x hx).2.2.1, fun h => h.elim (hX x hx).2.2.2.1 (fun h => by have := (hX x hx).1; omega), (hX x hx).2.2.2.2⟩⟩, ?_⟩, hag⟩
  · exact fun x hx hy => hy.elim (hs.rd x hx) (fun hy => by have := hs.refs.lt x hx; omega)
  · exact fun x hx hy => hy.elim (hs.bd x hx) (fun hy => by have := hs.back.lt x hx; omega)
  · exact fun hx => hx.elim hs.de (fun hx => by have := hs.edges.lt; omega)
  · exact fun hx => hx.elim hs.dg (fun hx => by have := hs.blk.lt; omega)
  · rintro x (hx | hx | (hx | hx) | hx | hx)
    · exact hlo x (.inl hx)
    · exact hlo x (.inr (.inl hx))
    · exact hlo x (.inr (.inr (.inl hx)))
    · omega
    · exact hlo x (.inr (.inr (.inr (.inl hx))))
    · exact hlo x (.inr (.inr (.inr (.inr hx))))
  · exact hbel.trans (hm3.below hs0 (fun x hx => hlo x (.inr (.inr (.inl hx)))))

theorem NewSt.putEdge {w0 : World} (h : NewSt w0 w X g r b e d M1 Mb Md E) (p q : ByteArray) : ∃ w2, (Instr.mapUpdate 40 (.map (some e)) (.agg #[.string p, .string q]) (.bool true)).run Try.prog w = .ok () w2 ∧ NewSt w0 w2 X g r b e d M1 Mb Md (mput E (p, q) (.bool true)) ∧ Agree (fun x => X x ∨ x = r) w w2 := by
  obtain ⟨⟨Fr, Fb, Fd, D1, Db, Dd, hs, hlo, hX⟩, hbel⟩ := h
  obtain ⟨w2, hrun, hmap, hm⟩ := hs.edges.put (mt := 40) Try.underlying40 (p, q) (.bool true)
  have hs0 := hbel.size
  have hag : Agree (fun x => X x ∨ x = r) w w2 := fun x hx => hx.elim (fun hx => hm.block x (hX x hx).1 (hX x hx).2.2.2.2.1) (fun hx => hm.block x (by rw [hx]; exact hs.refs.map.lt) (fun h => hs.re (by rw [← h, hx]; exact hs.refs.in_)))
  have hms := hm.size
  refine ⟨w2, hrun, ⟨⟨Fr, Fb, Fd, D1, Db, Dd, ⟨hs.blk.mod hm (fun h => hs.eg h.symm), hs.refs.mod hm (fun x hx h => hs.re (by rw [← h]; exact hx)), hs.back.mod hm (fun x hx h => hs.be (by rw [← h]; exact hx)), hs.der.mod hm (fun x hx h => hs.de (by rw [← h]; exact hx)), hmap, hs.rb, hs.rd, hs.bd, hs.re, hs.be, hs.de, hs.rg, hs.bg, hs.dg, hs.eg⟩, hlo, fun x hx => ⟨by have := (hX x hx).1; omega, (hX x hx).2⟩⟩, hbel.trans (hm.below hs0 (fun x hx => by rw [hx]; exact hlo e (.inr (.inr (.inr (.inl rfl))))))⟩, hag⟩
/-- what X holds is turned alone -/
theorem NewSt.modX {w0 : World} (h : NewSt w0 w X g r b e d M1 Mb Md E) (hm : Mod G w w') (hG : ∀ x, G x → X x ∧ w0.heap.size ≤ x) : NewSt w0 w' X g r b e d M1 Mb Md E := by
  obtain ⟨⟨Fr, Fb, Fd, D1, Db, Dd, hs, hlo, hX⟩, hbel⟩ := h
  have hs1 := hm.size
  refine ⟨⟨Fr, Fb, Fd, D1, Db, Dd, ⟨hs.blk.mod hm (fun h => (hX g (hG g h).1).2.2.2.2.2 rfl), hs.refs.mod hm (fun x hx h => (hX x (hG x h).1).2.1 hx), hs.back.mod hm (fun x hx h => (hX x (hG x h).1).2.2.1 hx), hs.der.mod hm (fun x hx h => (hX x (hG x h).1).2.2.2.1 hx), hs.edges.mod hm (fun h => (hX e (hG e h).1).2.2.2.2.1 rfl), hs.rb, hs.rd, hs.bd, hs.re, hs.be, hs.de, hs.rg, hs.bg, hs.dg, hs.eg⟩, hlo, fun x hx => ⟨by have := (hX x hx).1; omega, (hX x hx).2⟩⟩, hbel.trans (hm.below hbel.size (fun x hx => (hG x hx).2))⟩
theorem MapAt.uniq {α : Type} [DecidableEq α] {P : Program} {t : TypeId} {K : Keys P t α} {D D' : List (α × Value)} (h : MapAt K w g D) (h' : MapAt K w g D') : D = D' := by
  obtain ⟨es, clock, h1, h2, _⟩ := h
  obtain ⟨es', clock', k1, k2, _⟩ := h'
  rw [h1] at k1
  injection k1 with k1
  injection k1 with k1 _
  subst k1
  have e : D.map (fun x => (K.key x.1, x.2)) = D'.map (fun x => (K.key x.1, x.2)) := h2.symm.trans k2
  refine (List.map_inj_right (fun a b hab => ?_)).1 e
  simp only [Prod.mk.injEq] at hab
  exact Prod.ext (K.inj _ _ hab.1) hab.2
theorem Iter.agree_ {α : Type} [DecidableEq α] {P : Program} {t : TypeId} {K : Keys P t α} {D done : List (α × Value)} {it : Nat} (h : Iter K w it g D done) (h1 : w'.heap[it]? = w.heap[it]?) (h2 : w'.heap[g]? = w.heap[g]?) : Iter K w' it g D done := by
  obtain ⟨es, clock, since, seen, c0, k1, k2, k3⟩ := h
  exact ⟨es, clock, since, seen, c0, h1.trans k1, h2.trans k2, k3⟩
/-- the map of references, gone through -/
theorem NewSt.rows {w0 : World} (h : NewSt w0 w X g r b e d M1 Mb Md E) {D : List (ByteArray × Value)} (hm : MapAt KS w r D) : D.map (·.1) = M1.map (·.1) ∧ (M1.map (·.1)).Nodup ∧ ∀ x ∈ D, ∃ A c, x.2 = .slice A (mgetD M1 x.1).length c ∧ w.ownsRow 0 9 1 x.2 (mgetD M1 x.1).length (strs (mgetD M1 x.1)) := by
  obtain ⟨⟨Fr, Fb, Fd, D1, Db, Dd, hs, hlo, hX⟩, hbel⟩ := h
  obtain rfl := MapAt.uniq hs.refs.map hm
  refine ⟨hs.refs.rows.keys, hs.refs.nodup, fun x hx => ?_⟩
  obtain ⟨l, hl, hr⟩ := hs.refs.rows.mem x hx
  have e : mgetD M1 x.1 = l := by unfold mgetD; rw [mget_of_mem hs.refs.nodup hl]; rfl
  rw [e]
  obtain ⟨A, c, hv, _⟩ := hr.form
  exact ⟨A, c, hv, hr.1⟩
theorem NewSt.refsMap {w0 : World} (h : NewSt w0 w X g r b e d M1 Mb Md E) : ∃ D, MapAt KS w r D := by
  obtain ⟨⟨Fr, Fb, Fd, D1, Db, Dd, hs, hlo, hX⟩, hbel⟩ := h
  exact ⟨D1, hs.refs.map⟩
end
end Go.Proofs.Ytcffmpjdonncgaa
