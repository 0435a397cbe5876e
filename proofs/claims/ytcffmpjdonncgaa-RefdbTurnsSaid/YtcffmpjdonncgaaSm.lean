/- MAPS OF SLICES OF STRINGS that the call owns: what they hold; a value that grows. No program in sight. -/
import Derived.Test.YtcffmpjdonncgaaMp
namespace Go.Proofs.Ytcffmpjdonncgaa
open Go Go.RowKit

def strs (l : List ByteArray) : List Value := l.map Value.string
theorem strs_length (l : List ByteArray) : (strs l).length = l.length := by simp [strs]
theorem strs_append (l k : List ByteArray) : strs (l ++ k) = strs l ++ strs k := by simp [strs]
theorem strs_one (l : List ByteArray) : ∀ u ∈ strs l, u.oneCell' = true := by intro u hu; obtain ⟨b, _, rfl⟩ := List.mem_map.1 hu; rfl
theorem strs_get {l : List ByteArray} {j : Nat} {s : ByteArray} (h : l[j]? = some s) : (strs l)[j]? = some (.string s) := by simp [strs, h]

/-- a slice of strings of the call's own, in a block of F -/
def Row (se : TypeId) (w : World) (F : Nat → Prop) (v : Value) (l : List ByteArray) : Prop := w.ownsRow 0 se 1 v l.length (strs l) ∧ ∀ b, v.ownBlock = some b → F b
def Apart (u v : Value) : Prop := ∀ b, u.ownBlock = some b → v.ownBlock ≠ some b
def RowsOf (se : TypeId) (w : World) (F : Nat → Prop) : List (ByteArray × Value) → List (ByteArray × List ByteArray) → Prop
  | [], [] => True
  | x :: D, y :: M => x.1 = y.1 ∧ Row se w F x.2 y.2 ∧ (∀ z ∈ D, Apart x.2 z.2) ∧ RowsOf se w F D M
  | _, _ => False
section
variable {se : TypeId} {w w' : World} {F G : Nat → Prop} {v : Value} {l : List ByteArray}
theorem Row.form (h : Row se w F v l) : ∃ A c, v = .slice A l.length c ∧ l.length ≤ c ∧ c ≤ maxLen := own_form h.1
theorem Row.mod (h : Row se w F v l) (hm : Mod G w w') (hG : ∀ b, v.ownBlock = some b → ¬ G b) : Row se w' F v l := ⟨own_mod h.1 hm hG, h.2⟩
theorem Row.mono (h : Row se w F v l) (hF : ∀ b, F b → G b) : Row se w G v l := ⟨h.1, fun b hb => hF b (h.2 b hb)⟩
theorem Row.nil_ (w : World) : Row se w F (.slice none 0 0) [] := ⟨own_nil0 _ _ _, fun b hb => by simp [Value.ownBlock] at hb⟩
theorem RowsOf.keys : ∀ {D : List (ByteArray × Value)} {M : List (ByteArray × List ByteArray)}, RowsOf se w F D M → D.map (·.1) = M.map (·.1)
  | [], [], _ => rfl
  | [], _ :: _, h => h.elim
  | _ :: _, [], h => h.elim
  | _ :: _, _ :: _, ⟨h1, _, _, h3⟩ => by simp [h1, RowsOf.keys h3]
theorem RowsOf.imp (hi : ∀ v l, Row se w F v l → Row se w' G v l) : ∀ {D : List (ByteArray × Value)} {M : List (ByteArray × List ByteArray)}, RowsOf se w F D M → RowsOf se w' G D M
  | [], [], _ => trivial
  | [], _ :: _, h => h.elim
  | _ :: _, [], h => h.elim
  | _ :: _, _ :: _, ⟨h1, h2, h3, h4⟩ => ⟨h1, hi _ _ h2, h3, RowsOf.imp hi h4⟩
theorem RowsOf.get : ∀ {D : List (ByteArray × Value)} {M : List (ByteArray × List ByteArray)}, RowsOf se w F D M → ∀ a, (mget D a = none ∧ mget M a = none) ∨ ∃ v l, mget D a = some v ∧ mget M a = some l ∧ Row se w F v l
  | [], [], _, a => .inl ⟨rfl, rfl⟩
  | [], _ :: _, h, _ => h.elim
  | _ :: _, [], h, _ => h.elim
  | x :: D, y :: M, ⟨h1, h2, _, h3⟩, a => by
    unfold mget
    by_cases e : a = x.1
    · rw [if_pos e, if_pos (by rw [← h1]; exact e)]
      exact .inr ⟨_, _, rfl, rfl, h2⟩
    · rw [if_neg e, if_neg (by rw [← h1]; exact e)]
      exact RowsOf.get h3 a
theorem RowsOf.mem : ∀ {D : List (ByteArray × Value)} {M : List (ByteArray × List ByteArray)}, RowsOf se w F D M → ∀ x ∈ D, ∃ l, (x.1, l) ∈ M ∧ Row se w F x.2 l
  | [], _, _, _, hx => by cases hx
  | _ :: _, [], h, _, _ => h.elim
  | x0 :: D, y :: M, ⟨h1, h2, _, h3⟩, x, hx => by
    rcases List.mem_cons.1 hx with rfl | hx
    · exact ⟨y.2, by rw [h1]; exact List.mem_cons_self, h2⟩
    · obtain ⟨l, h4, h5⟩ := RowsOf.mem h3 x hx
      exact ⟨l, List.mem_cons_of_mem _ h4, h5⟩
/-- a value is put: another row, or the old one that has grown -/
theorem RowsOf.put {D : List (ByteArray × Value)} {M : List (ByteArray × List ByteArray)} (h : RowsOf se w F D M) (_hF : ∀ b, F b → b < w.heap.size) (hFG : ∀ b, F b → G b) (a : ByteArray) {v' : Value} {l' : List ByteArray} {H : Nat → Prop} (hm : Mod H w w') (hn : (D.map (·.1)).Nodup)
    (hH : ∀ b, F b → H b → ∃ v, mget D a = some v ∧ v.ownBlock = some b) (hv : Row se w' G v' l') (hat : ∀ b, v'.ownBlock = some b → F b → ∃ v, mget D a = some v ∧ v.ownBlock = some b) : RowsOf se w' G (mput D a v') (mput M a l') := by
  induction D generalizing M with
  | nil => cases M with
    | nil => exact ⟨rfl, hv, by simp, trivial⟩
    | cons => exact h.elim
  | cons x D ih =>
    cases M with
    | nil => exact h.elim
    | cons y M =>
      obtain ⟨h1, h2, h3, h4⟩ := h
      simp only [List.map_cons, List.nodup_cons] at hn
      unfold mput
      unfold mget at hH hat
      by_cases e : a = x.1
      · rw [if_pos e, if_pos (by rw [← h1]; exact e)]
        rw [if_pos e] at hH hat
        refine ⟨rfl, hv, fun z hz b hb hb2 => ?_, ?_⟩
        · obtain ⟨l, _, hr⟩ := RowsOf.mem h4 z hz
          obtain ⟨v, hv1, hv2⟩ := hat b hb (hr.2 b hb2)
          injection hv1 with hv1
          subst hv1
          exact h3 z hz b hv2 hb2
        · have h5 : RowsOf se w (fun b => F b ∧ x.2.ownBlock ≠ some b) D M := by
            clear ih hn
            induction D generalizing M with
            | nil => cases M with
              | nil => trivial
              | cons => exact h4.elim
            | cons z D ihz => cases M with
              | nil => exact h4.elim
              | cons u M => exact ⟨h4.1, ⟨h4.2.1.1, fun b hb => ⟨h4.2.1.2 b hb, fun hx => h3 z List.mem_cons_self b hx hb⟩⟩, h4.2.2.1, ihz M (fun z hz => h3 z (List.mem_cons_of_mem _ hz)) h4.2.2.2⟩
          refine RowsOf.imp (fun u k hr => ?_) h5
          refine ⟨own_mod hr.1 hm (fun b hb hx => ?_), fun b hb => hFG b (hr.2 b hb).1⟩
          obtain ⟨v, hv1, hv2⟩ := hH b (hr.2 b hb).1 hx
          injection hv1 with hv1
          subst hv1
          exact (hr.2 b hb).2 hv2
      · rw [if_neg e, if_neg (by rw [← h1]; exact e)]
        rw [if_neg e] at hH hat
        refine ⟨h1, ⟨own_mod h2.1 hm (fun b hb hx => ?_), fun b hb => hFG b (h2.2 b hb)⟩, fun z hz => ?_, ih h4 hn.2 hH hat⟩
        · obtain ⟨v, hv1, hv2⟩ := hH b (h2.2 b hb) hx
          exact h3 _ (mget_mem hv1) b hb hv2
        · have : z ∈ D ∨ z = (a, v') := by
            clear ih h4 h3 hH hat hn
            induction D with
            | nil => simpa [mput] using hz
            | cons q D ihq =>
              unfold mput at hz
              split at hz
              · rcases List.mem_cons.1 hz with rfl | hz
                · exact .inr rfl
                · exact .inl (List.mem_cons_of_mem _ hz)
              · rcases List.mem_cons.1 hz with rfl | hz
                · exact .inl List.mem_cons_self
                · rcases ihq hz with h | h
                  · exact .inl (List.mem_cons_of_mem _ h)
                  · exact .inr h
          rcases this with hz | rfl
          · exact h3 z hz
          · intro b hb hb2
            obtain ⟨v, hv1, hv2⟩ := hat b hb2 (h2.2 b hb)
            exact h3 _ (mget_mem hv1) b hb hv2
end

def mgetD (M : List (ByteArray × List ByteArray)) (a : ByteArray) : List ByteArray := (mget M a).getD []

/-- a map of slices of strings of the call's own -/
structure SM {P : Program} {t : TypeId} (K : Keys P t ByteArray) (se : TypeId) (w : World) (F : Nat → Prop) (g : Nat) (M : List (ByteArray × List ByteArray)) (D : List (ByteArray × Value)) : Prop where
  map : MapAt K w g D
  in_ : F g
  rows : RowsOf se w F D M
  lt : ∀ b, F b → b < w.heap.size
section
variable {P : Program} {t : TypeId} {K : Keys P t ByteArray} {se : TypeId} {w w' : World} {F G : Nat → Prop} {g : Nat} {M : List (ByteArray × List ByteArray)} {D : List (ByteArray × Value)}
theorem SM.mod (h : SM K se w F g M D) (hm : Mod G w w') (hG : ∀ b, F b → ¬ G b) : SM K se w' F g M D :=
  ⟨h.map.mod hm (hG _ h.in_), h.in_, RowsOf.imp (fun _ _ hr => hr.mod hm (fun b hb => hG b (hr.2 b hb))) h.rows, fun b hb => Nat.lt_of_lt_of_le (h.lt b hb) hm.size⟩
theorem SM.below (h : SM K se w F g M D) (hb : Below w.heap.size w w') : SM K se w' F g M D := h.mod (G := fun _ => False) (Mod.of_below hb) (fun _ _ h => h)
theorem SM.nodup (h : SM K se w F g M D) : (M.map (·.1)).Nodup := by rw [← h.rows.keys]; exact h.map.nodup
theorem SM.len (h : SM K se w F g M D) : D.length = M.length := by have := congrArg List.length h.rows.keys; simpa using this
theorem SM.new (w : World) : SM K se (w.alloc (.map #[] 0)) (fun b => b = w.heap.size) w.heap.size [] [] := ⟨MapAt.new w, rfl, trivial, fun b hb => by subst hb; simp⟩
/-- m[a]; what is not there reads as nil -/
theorem SM.look (h : SM K se w F g M D) {mt st : TypeId} (hm : P.underlying mt = some (.map t st)) (hz : ∀ w, (zeroValue st).run P w = .ok (.slice none 0 0) w) (a : ByteArray) :
    ∃ v, (Instr.lookup mt (.map (some g)) (K.key a) false).run P w = .ok v w ∧ (Instr.lookup mt (.map (some g)) (K.key a) true).run P w = .ok (.tuple #[v, .bool (mget M a).isSome]) w ∧ Row se w F v (mgetD M a) ∧ v = (mget D a).getD (.slice none 0 0) := by
  rcases h.rows.get a with ⟨h1, h2⟩ | ⟨v, l, h1, h2, h3⟩
  · have e1 := h.map.lookup_none hm h1 (hz w) false
    have e2 := h.map.lookup_none hm h1 (hz w) true
    refine ⟨.slice none 0 0, by simpa using e1, by rw [h2]; simpa using e2, by rw [mgetD, h2]; exact Row.nil_ w, by rw [h1]; rfl⟩
  · have e1 := h.map.lookup_some hm h1 false
    have e2 := h.map.lookup_some hm h1 true
    exact ⟨v, by simpa using e1, by rw [h2]; simpa using e2, by rw [mgetD, h2]; exact h3, by rw [h1]; rfl⟩
/-- a value is put: w1 is the world behind what made it -/
theorem SM.put (h : SM K se w F g M D) {w1 : World} {mt st : TypeId} (hm : P.underlying mt = some (.map t st)) (a : ByteArray) {v' : Value} {l' : List ByteArray} {H : Nat → Prop} (hw : Mod H w w1) (hH : ∀ b, F b → H b → ∃ v, mget D a = some v ∧ v.ownBlock = some b)
    (ho : w1.ownsRow 0 se 1 v' l'.length (strs l')) (hat : ∀ b, v'.ownBlock = some b → (F b → ∃ v, mget D a = some v ∧ v.ownBlock = some b) ∧ (F b ∨ w.heap.size ≤ b)) :
    ∃ w2, (Instr.mapUpdate mt (.map (some g)) (K.key a) v').run P w1 = .ok () w2 ∧ SM K se w2 (fun b => F b ∨ (w.heap.size ≤ b ∧ b < w2.heap.size)) g (mput M a l') (mput D a v') ∧ Mod (fun b => b = g) w1 w2 := by
  have hgH : ¬ H g := fun hx => by
    obtain ⟨v, hv1, hv2⟩ := hH g h.in_ hx
    rcases h.rows.get a with ⟨h1, _⟩ | ⟨u, l, h1, h2, h3⟩
    · rw [h1] at hv1; cases hv1
    · rw [h1] at hv1; injection hv1 with hv1; subst hv1
      exact h.map.ne_own h3.1 hv2
  have hmap : MapAt K w1 g D := h.map.mod hw hgH
  obtain ⟨w2, hrun, hmap2, hm2⟩ := hmap.put hm a v'
  have hvg : v'.ownBlock ≠ some g := fun e => hmap.ne_own ho e
  have hs := hw.size
  have hs2 := hm2.size
  refine ⟨w2, hrun, ⟨hmap2, .inl h.in_, ?_, fun b hb => hb.elim (fun hb => by have := h.lt b hb; omega) (fun hb => hb.2)⟩, hm2⟩
  refine RowsOf.put (H := fun b => H b ∨ b = g) (RowsOf.imp (G := fun b => F b ∧ b ≠ g) (fun u k hr => ⟨hr.1, fun b hb => ⟨hr.2 b hb, fun e => by subst e; exact h.map.ne_own hr.1 hb⟩⟩) h.rows) (fun b hb => h.lt b hb.1) (fun b hb => .inl hb.1) a ?_ h.map.nodup (fun b hb hx => ?_) ⟨own_mod ho hm2 (fun b hb e => hvg (by rw [hb, e])), fun b hb => ?_⟩ (fun b hb hF => (hat b hb).1 hF.1)
  · exact (hw.mono (fun _ _ hx => .inl hx)).trans hm2 (fun _ _ hx => .inr hx)
  · rcases hx with hx | hx
    · exact hH b hb.1 hx
    · exact (hb.2 hx).elim
  · rcases (hat b hb).2 with hF | hF
    · exact .inl hF
    · exact .inr ⟨hF, by have := own_lt' ho hb; omega⟩
end
end Go.Proofs.Ytcffmpjdonncgaa
