/- Between the printed texts' words for slices of strings (Kd.C, Kd.R) and the words of this claim (Sl, ownsRow). No program in sight. -/
import Derived.Test.YtcffmpjdonncgaaSm
import Derived.Test.YtcffmpjdonncgaaWWords
namespace Go.Proofs.Ytcffmpjdonncgaa
open Go.RowKit Go.Proofs.YtcffmpjdonncgaaW.PrintWords

theorem spot_none {w : World} {ad : Addr} {u : Value} (h : w.cell? (ad.add 0) = some u) : ad = ⟨ad.block, ad.off, none⟩ := by
  have e : ad.add 0 = ad := by unfold Addr.add; rfl
  rw [e] at h
  cases ad with
  | mk b o s =>
    cases s with
    | none => rfl
    | some k =>
      unfold World.cell? at h
      split at h
      · split at h
        · cases h
        · rename_i hs
          exact absurd rfl hs
      · cases h
theorem C_row {α : Type} {d : Kd α} {w : World} {A : Option Addr} {n : Nat} {xs : List α} (h : Kd.C d w A n xs) (h0 : 0 < d.sz) : xs.length = n ∧ (A = none → n = 0) ∧
    (0 < n → ∃ b o, A = some ⟨b, o, none⟩ ∧ b < w.heap.size ∧ ∀ j p, xs[j]? = some p → ∃ c, c.length = d.sz ∧ d.K w p c ∧ ∀ i u, c[i]? = some u → w.cell? ⟨b, o + j * d.sz + i, none⟩ = some u) := by
  refine ⟨h.1, fun hA => ?_, fun hn => ?_⟩
  · rcases Nat.eq_zero_or_pos n with e | e
    · exact e
    · obtain ⟨ad, he, _⟩ := h.2.2 e
      rw [hA] at he; cases he
  · obtain ⟨ad, he, hc⟩ := h.2.2 hn
    have hl : 0 < xs.length := by rw [h.1]; exact hn
    obtain ⟨c, hcl, _, hcc⟩ := hc 0 _ (List.getElem?_eq_getElem hl)
    have h1 := hcc 0 _ (List.getElem?_eq_getElem (by omega))
    rw [Nat.zero_mul, Nat.add_zero] at h1
    have hs := spot_none h1
    have hb := World.block_lt_of_cell? w _ h1
    rw [block_add] at hb
    refine ⟨ad.block, ad.off, by rw [he, ← hs], hb, fun j p hj => ?_⟩
    obtain ⟨c, k1, k2, k3⟩ := hc j p hj
    refine ⟨c, k1, k2, fun i u hu => ?_⟩
    have := k3 i u hu
    rw [hs, add_lit0, ← Nat.add_assoc] at this
    exact this
theorem sl_of_C {w : World} {A : Option Addr} {n c : Nat} {xs : List ByteArray} (h : Kd.C Kd.string w A n xs) (hc : n ≤ c) : Sl w (fun b => b < w.heap.size) 1 (.slice A n c) n (strs xs) := by
  obtain ⟨h1, _, h3⟩ := C_row h (by exact Nat.one_pos)
  refine ⟨by rw [strs_length, h1, Nat.mul_one], A, c, rfl, hc, fun hn => ?_⟩
  obtain ⟨b, o, rfl, hb, hcl⟩ := h3 hn
  refine ⟨_, rfl, hb, fun j u hu => ?_⟩
  rw [add_lit0]
  simp only [strs, List.getElem?_map, Option.map_eq_some_iff] at hu
  obtain ⟨p, hp, rfl⟩ := hu
  obtain ⟨c, hcl1, hk, hcc⟩ := hcl j p hp
  have hk : c = [.string p] := hk
  subst hk
  have := hcc 0 _ rfl
  simpa [Kd.string, Kd.scalar] using this
theorem C_of_sl {w : World} {F : Nat → Prop} {A : Option Addr} {n c : Nat} {xs : List ByteArray} (h : Sl w F 1 (.slice A n c) n (strs xs)) (hn : n ≤ 9223372036854775807) : Kd.C Kd.string w A n xs := by
  obtain ⟨h1, A', c', hv, _, hr⟩ := h
  rw [strs_length, Nat.mul_one] at h1
  refine ⟨h1, hn, fun h0 => ?_⟩
  obtain ⟨ad, hA, _, hcc⟩ := hr h0
  simp only [Value.slice.injEq] at hv
  refine ⟨ad, by rw [hv.1, hA], fun j p hj => ⟨[.string p], rfl, rfl, fun i u hu => ?_⟩⟩
  cases i with
  | zero =>
    simp only [List.getElem?_cons_zero, Option.some.injEq] at hu
    subst hu
    have := hcc j _ (strs_get hj)
    simpa [Kd.string, Kd.scalar] using this
  | succ i => simp at hu
theorem C_of_own {w : World} {base e : Nat} {A : Option Addr} {n c : Nat} {xs : List ByteArray} (h : w.ownsRow base e 1 (.slice A n c) n (strs xs)) (hn : n ≤ 9223372036854775807) : Kd.C Kd.string w A n xs := by
  have := Sl.of_own h
  exact C_of_sl this hn
theorem own_of_Rs {w : World} {base e : Nat} {ok : Nat → Prop} {v : Value} {xs : List ByteArray} (h : Kd.R Kd.string e w base ok v xs) : w.ownsRow base e 1 v xs.length (strs xs) := by
  have h : Kd.R (Kd.scalar Value.string (fun _ => rfl)) e w base ok v xs := h
  exact Kd.own_of_R h
theorem Sl_cells {w : World} {F : Nat → Prop} {A : Option Addr} {n c : Nat} {l : List ByteArray} (h : Sl w F 1 (.slice A n c) n (strs l)) (hn : 0 < n) : ∃ b o, A = some ⟨b, o, none⟩ ∧ F b ∧ ∀ j s, l[j]? = some s → w.cell? ⟨b, o + j, none⟩ = some (.string s) := by
  obtain ⟨hl, A', c', hv, _, hcc⟩ := h
  obtain ⟨ad, hA, hF, hcell⟩ := hcc hn
  simp only [Value.slice.injEq] at hv
  have hl0 : 0 < l.length := by rw [strs_length, Nat.mul_one] at hl; omega
  have hsp := spot_none (hcell 0 _ (strs_get (List.getElem?_eq_getElem hl0)))
  refine ⟨ad.block, ad.off, by rw [hv.1, hA, ← hsp], hF, fun j s hj => ?_⟩
  have := hcell j _ (strs_get hj)
  rwa [hsp, add_lit0] at this
end Go.Proofs.Ytcffmpjdonncgaa
