/- MAPS: a map known as a list of keys and values; its operations as equations of the run; going through it. No program in sight. -/
import Derived.Test.YtjdobjcbmmdjeaaWd
import Derived.Maps.RangeRun
import Derived.MapKept
namespace Go.Proofs.Ytjdobjcbmmdjeaa
open Go Go.RowKit
open Go.ChangeMaps Go.MapKept

/-- the keys of a map's type -/
structure Keys (P : Program) (t : TypeId) (α : Type) [DecidableEq α] where
  key : α → Value
  kind : TypeDesc
  ht : P.underlying t = some kind
  is : ∀ a, IsKey kind (key a)
  same : ∀ a b, Instr.sameNow kind (key a) (key b) = some (decide (a = b))
  stays : ∀ a, Instr.sameBits 10000 (key a) (key a) = true

def Keys.ofInt {P : Program} {t : TypeId} {k : IntKind} (ht : P.underlying t = some (.int k)) : Keys P t Int :=
  ⟨fun n => .int k n, .int k, ht, fun _ => by simp [IsKey], fun a b => by simp [Instr.sameNow, BEq.beq], fun a => by unfold Instr.sameBits; simp⟩

section
variable {α : Type} [DecidableEq α] {P : Program} {t : TypeId}

variable {β : Type}
def mget (D : List (α × β)) (a : α) : Option β := match D with
  | [] => none
  | x :: D => if a = x.1 then some x.2 else mget D a
def mput (D : List (α × β)) (a : α) (v : β) : List (α × β) := match D with
  | [] => [(a, v)]
  | x :: D => if a = x.1 then (a, v) :: D else x :: mput D a v
theorem mget_none {D : List (α × β)} {a : α} : mget D a = none ↔ a ∉ D.map (·.1) := by
  induction D with
  | nil => simp [mget]
  | cons x D ih =>
    unfold mget
    by_cases h : a = x.1
    · simp [h]
    · rw [if_neg h, ih]; simp [h]
theorem mput_new {D : List (α × β)} {a : α} {v : β} (h : mget D a = none) : mput D a v = D ++ [(a, v)] := by
  induction D with
  | nil => rfl
  | cons x D ih =>
    unfold mget at h
    unfold mput
    by_cases e : a = x.1
    · rw [if_pos e] at h; cases h
    · rw [if_neg e] at h ⊢; rw [ih h]; rfl
theorem mput_keys {D : List (α × β)} {a : α} {v v0 : β} (h : mget D a = some v0) : (mput D a v).map (·.1) = D.map (·.1) := by
  induction D with
  | nil => simp [mget] at h
  | cons x D ih =>
    unfold mget at h
    unfold mput
    by_cases e : a = x.1
    · rw [if_pos e]; simp [e]
    · rw [if_neg e] at h ⊢; simp [ih h]
theorem mget_mput {D : List (α × β)} {a b : α} {v : β} : mget (mput D a v) b = if b = a then some v else mget D b := by
  induction D with
  | nil => simp [mput, mget]
  | cons x D ih =>
    unfold mput
    by_cases e : a = x.1
    · rw [if_pos e]
      unfold mget
      by_cases e2 : b = a
      · rw [if_pos e2, if_pos e2]
      · rw [if_neg e2, if_neg e2, if_neg (by rw [← e]; exact e2)]
    · rw [if_neg e]
      unfold mget
      by_cases e2 : b = x.1
      · rw [if_pos e2, if_pos e2, if_neg (fun h => e (by rw [← h, e2]))]
      · rw [if_neg e2, if_neg e2, ih]
theorem mget_mem {D : List (α × β)} {a : α} {v : β} (h : mget D a = some v) : (a, v) ∈ D := by
  induction D with
  | nil => simp [mget] at h
  | cons x D ih =>
    unfold mget at h
    by_cases e : a = x.1
    · rw [if_pos e] at h; injection h with h; subst h; rw [e]; exact List.mem_cons_self
    · rw [if_neg e] at h; exact List.mem_cons_of_mem _ (ih h)
theorem mget_of_mem {D : List (α × β)} (hn : (D.map (·.1)).Nodup) {a : α} {v : β} (h : (a, v) ∈ D) : mget D a = some v := by
  induction D with
  | nil => cases h
  | cons x D ih =>
    simp only [List.map_cons, List.nodup_cons] at hn
    unfold mget
    rcases List.mem_cons.1 h with rfl | h
    · rw [if_pos rfl]
    · rw [if_neg (fun e => hn.1 (by rw [← e]; exact List.mem_map.2 ⟨_, h, rfl⟩)), ih hn.2 h]

/-- entries that read as D -/
def Ents (K : Keys P t α) (es : List MapEntry) (D : List (α × Value)) : Prop := es.map (fun e => (e.key, e.val)) = D.map (fun x => (K.key x.1, x.2))
theorem findNow_none {K : Keys P t α} {a : α} : ∀ (es : List MapEntry) (D : List (α × Value)) (i : Nat), Ents K es D → mget D a = none → Instr.findNow K.kind (K.key a) es i = some none
  | [], _, _, _, _ => by simp [Instr.findNow]
  | e :: es, [], _, h, _ => by simp [Ents] at h
  | e :: es, x :: D, i, h, hn => by
    simp only [Ents, List.map_cons, List.cons.injEq, Prod.mk.injEq] at h
    unfold mget at hn
    by_cases ea : a = x.1
    · rw [if_pos ea] at hn; cases hn
    · rw [if_neg ea] at hn
      unfold Instr.findNow
      rw [h.1.1, K.same, decide_eq_false ea]
      exact findNow_none es D (i + 1) h.2 hn
theorem findNow_some {K : Keys P t α} {a : α} {v : Value} : ∀ (es : List MapEntry) (D : List (α × Value)) (i : Nat), Ents K es D → mget D a = some v →
    ∃ j, Instr.findNow K.kind (K.key a) es i = some (some (i + j, v)) ∧ (es[j]?).map (·.key) = some (K.key a) ∧ ∀ u, Ents K (es.modify j fun e => { e with key := K.key a, val := u }) (mput D a u)
  | [], D, _, h, hs => by
    cases D with
    | nil => simp [mget] at hs
    | cons => simp [Ents] at h
  | e :: es, [], _, h, _ => by simp [Ents] at h
  | e :: es, x :: D, i, h, hs => by
    simp only [Ents, List.map_cons, List.cons.injEq, Prod.mk.injEq] at h
    unfold mget at hs
    by_cases ea : a = x.1
    · rw [if_pos ea] at hs
      injection hs with hs
      refine ⟨0, ?_, ?_, fun u => ?_⟩
      · unfold Instr.findNow
        rw [h.1.1, K.same, decide_eq_true ea]
        simp [h.1.2, hs]
      · simp [h.1.1, ea]
      · unfold mput
        rw [if_pos ea]
        simp only [Ents, List.modify_zero_cons, List.map_cons]
        rw [h.2]
    · rw [if_neg ea] at hs
      obtain ⟨j, h1, h2, h3⟩ := findNow_some es D (i + 1) h.2 hs
      refine ⟨j + 1, ?_, by simpa using h2, fun u => ?_⟩
      · unfold Instr.findNow
        rw [h.1.1, K.same, decide_eq_false ea]
        simp only [h1]
        congr 3
        omega
      · unfold mput
        rw [if_neg ea]
        have := h3 u
        simp only [Ents, List.modify_succ_cons, List.map_cons] at this ⊢
        rw [this, h.1.1, h.1.2]

def MapAt (K : Keys P t α) (w : World) (g : Nat) (D : List (α × Value)) : Prop :=
  ∃ es clock, w.heap[g]? = some (.map es clock) ∧ Ents K es.toList D ∧ (D.map (·.1)).Nodup ∧ (∀ e ∈ es.toList, e.born < clock) ∧ (es.toList.map (·.born)).Nodup
variable {K : Keys P t α} {w w' : World} {g : Nat} {D : List (α × Value)} {F : Nat → Prop}
theorem MapAt.lt (h : MapAt K w g D) : g < w.heap.size := by
  obtain ⟨_, _, h, _⟩ := h
  exact (Array.getElem?_eq_some_iff.1 h).1
theorem MapAt.mod (h : MapAt K w g D) (hm : Mod F w w') (hF : ¬ F g) : MapAt K w' g D := by
  obtain ⟨es, clock, h1, h2⟩ := h
  exact ⟨es, clock, (hm.block g (Array.getElem?_eq_some_iff.1 h1).1 hF).trans h1, h2⟩
theorem MapAt.below (h : MapAt K w g D) (hb : Below w.heap.size w w') : MapAt K w' g D := h.mod (F := fun _ => False) (Mod.of_below hb) (fun h => h)
theorem MapAt.nodup (h : MapAt K w g D) : (D.map (·.1)).Nodup := by
  obtain ⟨_, _, _, _, h, _⟩ := h
  exact h
theorem MapAt.new (w : World) : MapAt K (w.alloc (.map #[] 0)) w.heap.size [] := ⟨#[], 0, heap_alloc_new w _, rfl, by simp, by simp, by simp⟩
theorem MapAt.ne_blk {b : Nat} {t' : TypeId} {cs : List Value} (h : MapAt K w g D) (hb : Blk w b t' cs) : g ≠ b := by
  rintro rfl
  obtain ⟨es, clock, h1, _⟩ := h
  unfold Blk at hb
  rw [h1] at hb
  cases hb
theorem MapAt.ne_own {base : Nat} {e : TypeId} {size n : Nat} {v : Value} {xs : List Value} (h : MapAt K w g D) (ho : w.ownsRow base e size v n xs) : v.ownBlock ≠ some g := by
  rcases ho.2 with ⟨rfl, _⟩ | ⟨g', cap, cur, rfl, _, hh, _⟩
  · simp [Value.ownBlock]
  · intro e
    have : g' = g := by simpa [Value.ownBlock] using e
    subst this
    obtain ⟨es, clock, h1, _⟩ := h
    rw [hh] at h1
    cases h1

theorem Mod.setBlock_ (w : World) (g : Nat) (o : Obj) : Mod (fun b => b = g) w (setBlock w g o) :=
  ⟨rfl, rfl, rfl, by simp [setBlock], fun i _ hf => by simp [setBlock, Ne.symm hf]⟩
theorem setBlock_at {w : World} {g : Nat} (h : g < w.heap.size) (o : Obj) : (setBlock w g o).heap[g]? = some o := by
  simp [setBlock, h]

/-- m[a], where it is there -/
theorem MapAt.lookup_some (h : MapAt K w g D) {mt e : TypeId} (hm : P.underlying mt = some (.map t e)) {a : α} {v : Value} (hv : mget D a = some v) (ok : Bool) :
    (Instr.lookup mt (.map (some g)) (K.key a) ok).run P w = .ok (if ok then .tuple #[v, .bool true] else v) w := by
  obtain ⟨es, clock, h1, h2, _⟩ := h
  obtain ⟨j, h3, _⟩ := findNow_some es.toList D 0 h2 hv
  unfold Instr.lookup
  simp only [Sem.run_bind, run_underlying hm, Result.andThen, MapKept.run_getObj_map h1, Sem.run_pure, run_checkKey K.ht (K.is a), run_findKey K.ht h3]
/-- m[a], where it is not -/
theorem MapAt.lookup_none (h : MapAt K w g D) {mt e : TypeId} (hm : P.underlying mt = some (.map t e)) {a : α} (hv : mget D a = none) {z : Value} (hz : (zeroValue e).run P w = .ok z w) (ok : Bool) :
    (Instr.lookup mt (.map (some g)) (K.key a) ok).run P w = .ok (if ok then .tuple #[z, .bool false] else z) w := by
  obtain ⟨es, clock, h1, h2, _⟩ := h
  have h3 := findNow_none (K := K) es.toList D 0 h2 hv
  unfold Instr.lookup
  simp only [Sem.run_bind, run_underlying hm, Result.andThen, MapKept.run_getObj_map h1, Sem.run_pure, run_checkKey K.ht (K.is a), run_findKey K.ht h3, hz]
theorem MapAt.len (h : MapAt K w g D) {mt e : TypeId} (hm : P.underlying mt = some (.map t e)) (ty : TypeId) : (Builtin.len_ #[mt] ty #[.map (some g)]).run P w = .ok (.int .i64 (D.length : Int)) w := by
  obtain ⟨es, clock, h1, h2, _⟩ := h
  have hl : es.size = D.length := by have := congrArg List.length h2; simpa using this
  simp only [Builtin.len_, List.getElem?_toArray, List.getElem?_cons_zero, Sem.run_bind, run_underlying hm, Result.andThen, MapKept.run_getObj_map h1, Sem.run_pure, hl]
  rfl
theorem MapAt.clear (h : MapAt K w g D) {mt e : TypeId} (hm : P.underlying mt = some (.map t e)) (ty : TypeId) : ∃ w', (Builtin.clear_ #[mt] ty #[.map (some g)]).run P w = .ok (.tuple #[]) w' ∧ MapAt K w' g [] ∧ Mod (fun b => b = g) w w' := by
  obtain ⟨es, clock, h1, h2, _⟩ := h
  refine ⟨setBlock w g (.map #[] clock), ?_, ⟨#[], clock, setBlock_at (Array.getElem?_eq_some_iff.1 h1).1 _, rfl, by simp, by simp, by simp⟩, Mod.setBlock_ _ _ _⟩
  simp only [Builtin.clear_, List.getElem?_toArray, List.getElem?_cons_zero, Sem.run_bind, run_underlying hm, Result.andThen, MapKept.run_getObj_map h1, MapKept.run_setObj_map _ h1, Sem.run_pure]
  rfl
/-- m[a] = v -/
theorem MapAt.put (h : MapAt K w g D) {mt e : TypeId} (hm : P.underlying mt = some (.map t e)) (a : α) (v : Value) : ∃ w', (Instr.mapUpdate mt (.map (some g)) (K.key a) v).run P w = .ok () w' ∧ MapAt K w' g (mput D a v) ∧ Mod (fun b => b = g) w w' := by
  obtain ⟨es, clock, h1, h2, h3, h4, h5⟩ := h
  have hlt := (Array.getElem?_eq_some_iff.1 h1).1
  cases hg : mget D a with
  | none =>
    have hf := findNow_none (K := K) es.toList D 0 h2 hg
    refine ⟨setBlock w g (.map (es.push { key := K.key a, val := v, born := clock }) (clock + 1)), ?_, ⟨_, _, setBlock_at hlt _, ?_, ?_, ?_, ?_⟩, Mod.setBlock_ _ _ _⟩
    · unfold Instr.mapUpdate
      simp only [Sem.run_bind, run_underlying hm, Result.andThen, MapKept.run_getObj_map h1, run_checkKey K.ht (K.is a), run_findKey K.ht hf, MapKept.run_setObj_map _ h1]
      rfl
    · rw [mput_new hg]
      simp only [Ents, Array.toList_push, List.map_append, List.map_cons, List.map_nil]
      rw [h2]
    · rw [mput_new hg, List.map_append, List.nodup_append]
      refine ⟨h3, by simp, fun x hx y hy => ?_⟩
      simp only [List.map_cons, List.map_nil, List.mem_singleton] at hy
      subst hy
      rintro rfl
      exact mget_none.1 hg hx
    · intro x hx
      simp only [Array.toList_push, List.mem_append, List.mem_singleton] at hx
      rcases hx with hx | rfl
      · exact Nat.lt_succ_of_lt (h4 x hx)
      · exact Nat.lt_succ_self _
    · simp only [Array.toList_push, List.map_append, List.map_cons, List.map_nil, List.nodup_append]
      refine ⟨h5, by simp, fun x hx y hy => ?_⟩
      obtain ⟨e', he', rfl⟩ := List.mem_map.1 hx
      have := h4 e' he'
      simp only [List.mem_singleton] at hy
      omega
  | some v0 =>
    obtain ⟨j, hf, hk, hp⟩ := findNow_some (K := K) es.toList D 0 h2 hg
    rw [Nat.zero_add] at hf
    have hkey : ((es[j]?).map (·.key)).getD (K.key a) = K.key a := by
      have : (es[j]?).map (·.key) = some (K.key a) := by simpa using hk
      rw [this]; rfl
    have hborn : (es.toList.modify j fun e => { e with key := K.key a, val := v }).map (·.born) = es.toList.map (·.born) := by
      apply List.ext_getElem?
      intro i
      simp only [List.getElem?_map, List.getElem?_modify]
      by_cases hi : j = i
      · subst hi; simp only [if_true]; cases es.toList[j]? <;> rfl
      · simp only [if_neg hi]; cases es.toList[i]? <;> rfl
    refine ⟨setBlock w g (.map (es.modify j fun e => { e with key := K.key a, val := v }) clock), ?_, ⟨_, _, setBlock_at hlt _, ?_, ?_, ?_, ?_⟩, Mod.setBlock_ _ _ _⟩
    · unfold Instr.mapUpdate
      simp only [Sem.run_bind, run_underlying hm, Result.andThen, MapKept.run_getObj_map h1, run_checkKey K.ht (K.is a), run_findKey K.ht hf, Instr.keyThatStays, hkey, K.stays, if_true, Sem.run_pure, MapKept.run_setObj_map _ h1]
      rfl
    · simpa [Array.toList_modify] using hp v
    · rw [mput_keys hg]; exact h3
    · intro x hx
      rw [Array.toList_modify] at hx
      have : x.born ∈ (es.toList.modify j fun e => { e with key := K.key a, val := v }).map (·.born) := List.mem_map.2 ⟨x, hx, rfl⟩
      rw [hborn] at this
      obtain ⟨y, hy, e⟩ := List.mem_map.1 this
      rw [← e]
      exact h4 y hy
    · rw [Array.toList_modify, hborn]; exact h5

/-! GOING THROUGH A MAP -/
theorem Keys.inj (K : Keys P t α) {a b : α} (h : K.key a = K.key b) : a = b := by
  have h1 := K.same a b
  rw [h, K.same b b] at h1
  simpa using h1
theorem ents_get {K : Keys P t α} : ∀ {es : List MapEntry} {D : List (α × Value)}, Ents K es D → ∀ e ∈ es, ∃ x ∈ D, e.key = K.key x.1 ∧ e.val = x.2
  | [], _, _, e, he => by cases he
  | e0 :: es, [], h, _, _ => by simp [Ents] at h
  | e0 :: es, x :: D, h, e, he => by
    simp only [Ents, List.map_cons, List.cons.injEq, Prod.mk.injEq] at h
    rcases List.mem_cons.1 he with rfl | he
    · exact ⟨x, List.mem_cons_self, h.1⟩
    · obtain ⟨y, hy, h2⟩ := ents_get h.2 e he
      exact ⟨y, List.mem_cons_of_mem _ hy, h2⟩
theorem ents_back {K : Keys P t α} : ∀ {es : List MapEntry} {D : List (α × Value)}, Ents K es D → ∀ x ∈ D, ∃ e ∈ es, e.key = K.key x.1 ∧ e.val = x.2
  | _, [], _, x, hx => by cases hx
  | [], x0 :: D, h, _, _ => by simp [Ents] at h
  | e0 :: es, x0 :: D, h, x, hx => by
    simp only [Ents, List.map_cons, List.cons.injEq, Prod.mk.injEq] at h
    rcases List.mem_cons.1 hx with rfl | hx
    · exact ⟨e0, List.mem_cons_self, h.1⟩
    · obtain ⟨y, hy, h2⟩ := ents_back h.2 x hx
      exact ⟨y, List.mem_cons_of_mem _ hy, h2⟩
theorem ents_key {K : Keys P t α} : ∀ {es : List MapEntry} {D : List (α × Value)}, Ents K es D → (D.map (·.1)).Nodup → ∀ e ∈ es, ∀ d ∈ es, e.key = d.key → e = d
  | [], _, _, _, _, he, _, _, _ => by cases he
  | e0 :: es, [], h, _, _, _, _, _, _ => by simp [Ents] at h
  | e0 :: es, x :: D, h, hn, e, he, d, hd, hk => by
    simp only [Ents, List.map_cons, List.cons.injEq, Prod.mk.injEq] at h
    simp only [List.map_cons, List.nodup_cons] at hn
    have key : ∀ c ∈ es, c.key = e0.key → False := by
      intro c hc e1
      obtain ⟨y, hy, h2, _⟩ := ents_get h.2 c hc
      rw [h.1.1, h2] at e1
      exact hn.1 (by rw [← K.inj e1]; exact List.mem_map.2 ⟨y, hy, rfl⟩)
    rcases List.mem_cons.1 he with e1 | he2 <;> rcases List.mem_cons.1 hd with e2 | hd2
    · rw [e1, e2]
    · exact (key d hd2 (by rw [← hk, e1])).elim
    · exact (key e he2 (by rw [hk, e2])).elim
    · exact ents_key h.2 hn.2 e he2 d hd2 hk
theorem map_inj_nodup {β γ : Type} (f : β → γ) : ∀ {l : List β}, (l.map f).Nodup → ∀ x ∈ l, ∀ y ∈ l, f x = f y → x = y
  | [], _, _, hx, _, _, _ => by cases hx
  | a :: l, hn, x, hx, y, hy, e => by
    simp only [List.map_cons, List.nodup_cons] at hn
    rcases List.mem_cons.1 hx with e1 | hx2 <;> rcases List.mem_cons.1 hy with e2 | hy2
    · rw [e1, e2]
    · exact (hn.1 (by rw [← e1, e]; exact List.mem_map.2 ⟨y, hy2, rfl⟩)).elim
    · exact (hn.1 (by rw [← e2, ← e]; exact List.mem_map.2 ⟨x, hx2, rfl⟩)).elim
    · exact map_inj_nodup f hn.2 x hx2 y hy2 e
theorem nodup_of_map {β γ : Type} (f : β → γ) {l : List β} (h : (l.map f).Nodup) : l.Nodup :=
  List.Pairwise.of_map f (fun _ _ hne e => hne (congrArg f e)) h

/-- an iterator at block r over the map g, that has handed out done, in this order -/
def Iter (K : Keys P t α) (w : World) (r g : Nat) (D done : List (α × Value)) : Prop :=
  ∃ es clock since seen c0, w.heap[r]? = some (.mapIter (some g) since seen c0) ∧ w.heap[g]? = some (.map es clock) ∧ Ents K es.toList D ∧ (D.map (·.1)).Nodup ∧ (∀ e ∈ es.toList, e.born < clock) ∧ (es.toList.map (·.born)).Nodup ∧
    (∀ e ∈ es.toList, e.born < since) ∧ since ≤ c0 ∧ since ≤ clock ∧ ∃ ds : List MapEntry, seen.toList = ds.map (·.born) ∧ Ents K ds done ∧ (∀ d ∈ ds, d ∈ es.toList) ∧ (done.map (·.1)).Nodup ∧ (∀ x ∈ done, x ∈ D)
variable {r : Nat} {done : List (α × Value)}
theorem Iter.map (h : Iter K w r g D done) : MapAt K w g D := by
  obtain ⟨es, clock, _, _, _, _, h1, h2, h3, h4, h5, _⟩ := h
  exact ⟨es, clock, h1, h2, h3, h4, h5⟩
theorem Iter.lt (h : Iter K w r g D done) : r < w.heap.size := by
  obtain ⟨_, _, _, _, _, h, _⟩ := h
  exact (Array.getElem?_eq_some_iff.1 h).1
theorem Iter.mod (h : Iter K w r g D done) (hm : Mod F w w') (hg : ¬ F g) (hr : ¬ F r) : Iter K w' r g D done := by
  obtain ⟨es, clock, since, seen, c0, h1, h2, h3⟩ := h
  exact ⟨es, clock, since, seen, c0, (hm.block r (Array.getElem?_eq_some_iff.1 h1).1 hr).trans h1, (hm.block g (Array.getElem?_eq_some_iff.1 h2).1 hg).trans h2, h3⟩
theorem Iter.below (h : Iter K w r g D done) (hb : Below w.heap.size w w') : Iter K w' r g D done := h.mod (F := fun _ => False) (Mod.of_below hb) (fun h => h) (fun h => h)
theorem Iter.ne_own {base : Nat} {e : TypeId} {size n : Nat} {v : Value} {xs : List Value} (h : Iter K w r g D done) (ho : w.ownsRow base e size v n xs) : v.ownBlock ≠ some r := by
  rcases ho.2 with ⟨rfl, _⟩ | ⟨g', cap, cur, rfl, _, hh, _⟩
  · simp [Value.ownBlock]
  · intro e
    have : g' = r := by simpa [Value.ownBlock] using e
    subst this
    obtain ⟨_, _, _, _, _, h1, _⟩ := h
    rw [hh] at h1
    cases h1
/-- range m -/
theorem MapAt.range (h : MapAt K w g D) {mt e : TypeId} (hm : P.underlying mt = some (.map t e)) : ∃ w', (Instr.range mt (.map (some g))).run P w = .ok (.pointer (some ⟨w.heap.size, 0, none⟩)) w' ∧ Iter K w' w.heap.size g D [] ∧ Below w.heap.size w w' := by
  obtain ⟨es, clock, h1, h2, h3, h4, h5⟩ := h
  refine ⟨w.alloc (.mapIter (some g) clock #[] clock), ?_, ⟨es, clock, clock, #[], clock, heap_alloc_new _ _, ?_, h2, h3, h4, h5, h4, Nat.le_refl _, Nat.le_refl _, [], rfl, rfl, by simp, by simp, by simp⟩, (Below.refl _ _).alloc (Nat.le_refl _) _⟩
  · unfold Instr.range
    simp only [Sem.run_bind, run_underlying hm, Result.andThen, MapKept.run_getObj_map h1, Sem.run_pure]
    rfl
  · rw [Below.heap_alloc _ _ _ (Array.getElem?_eq_some_iff.1 h1).1]; exact h1
/-- one step -/
theorem Iter.next (h : Iter K w r g D done) (ty : TypeId) :
    ((∀ x ∈ D, x ∈ done) ∧ (Instr.next (.pointer (some ⟨r, 0, none⟩)) false ty).run P w = .ok (.tuple #[.bool false]) w) ∨
    ∃ x w', (Instr.next (.pointer (some ⟨r, 0, none⟩)) false ty).run P w = .ok (.tuple #[.bool true, K.key x.1, x.2]) w' ∧ (Instr.entry (.pointer (some ⟨r, 0, none⟩))).run P w' = .ok (.tuple #[K.key x.1, x.2]) w' ∧ Iter K w' r g D (done ++ [x]) ∧ x ∈ D ∧ Mod (fun b => b = r) w w' := by
  obtain ⟨es, clock, since, seen, c0, hr, hg, hE, hn, hb, hbn, hs, hsc, hsc2, ds, hds, hdd, hsub, hdn, hdD⟩ := h
  rcases run_next_at (P := P) w ty r g since c0 seen es clock hr hg hs hsc with ⟨h0, hrun⟩ | ⟨e, he, w1, hw1, hrun⟩
  · left
    refine ⟨fun x hx => ?_, hrun⟩
    obtain ⟨e, he, h1, h2⟩ := ents_back hE x hx
    have hin : e.born ∈ seen.toList := by
      have hemp : leftOf es seen = #[] := Array.eq_empty_of_size_eq_zero h0
      unfold leftOf at hemp
      rw [Array.filter_eq_empty_iff] at hemp
      have := hemp e (by simpa using he)
      simpa using this
    rw [hds] at hin
    obtain ⟨d, hd, hbd⟩ := List.mem_map.1 hin
    have hde : d = e := map_inj_nodup (·.born) hbn d (hsub d hd) e he hbd
    subst hde
    obtain ⟨y, hy, k1, k2⟩ := ents_get hdd d hd
    have : y = x := by
      have e1 := K.inj (k1.symm.trans h1)
      exact Prod.ext e1 (k2.symm.trans h2)
    rw [← this]; exact hy
  · right
    have he2 : e ∈ es.toList ∧ e.born ∉ seen.toList := by
      unfold leftOf at he
      simpa using he
    obtain ⟨x, hx, h1, h2⟩ := ents_get hE e he2.1
    have hlt : r < w1.heap.size := by rcases hw1 with rfl | rfl <;> exact (Array.getElem?_eq_some_iff.1 hr).1
    have hgr : g ≠ r := by rintro rfl; rw [hr] at hg; cases hg
    have hg1 : w1.heap[g]? = some (.map es clock) := by rcases hw1 with rfl | rfl <;> exact hg
    have hm1 : Mod (fun b => b = r) w w1 := by
      rcases hw1 with rfl | rfl
      · exact Mod.refl _ _
      · exact (Mod.refl _ _).drew
    have hgs : (setBlock w1 r (.mapIter (some g) since (seen.push e.born) clock)).heap[g]? = some (.map es clock) := ((Mod.setBlock_ w1 r _).block g (Array.getElem?_eq_some_iff.1 hg1).1 hgr).trans hg1
    refine ⟨x, _, by rw [h1, h2] at hrun; exact hrun, ?_, ?_, hx, hm1.trans (Mod.setBlock_ w1 r _) (fun _ _ h => h)⟩
    · have := run_entry_at (P := P) _ r g since seen es clock e (setBlock_at hlt _) hgs he2.1 hbn
      rw [h1, h2] at this
      exact this
    · · refine ⟨es, clock, since, seen.push e.born, clock, setBlock_at hlt _, hgs, hE, hn, hb, hbn, hs, hsc2, hsc2, ds ++ [e], by simp [hds], ?_, ?_, ?_, ?_⟩
        · simp only [Ents, List.map_append, List.map_cons, List.map_nil] at hdd ⊢
          rw [hdd, h1, h2]
        · intro d hd
          rcases List.mem_append.1 hd with hd | hd
          · exact hsub d hd
          · rw [List.mem_singleton] at hd; subst hd; exact he2.1
        · rw [List.map_append, List.nodup_append]
          refine ⟨hdn, by simp, fun a ha b hb' => ?_⟩
          simp only [List.map_cons, List.map_nil, List.mem_singleton] at hb'
          subst hb'
          rintro rfl
          obtain ⟨y, hy, e1⟩ := List.mem_map.1 ha
          obtain ⟨d, hd, k1, _⟩ := ents_back hdd y hy
          have := ents_key hE hn d (hsub d hd) e he2.1 (by rw [k1, h1, e1])
          subst this
          exact he2.2 (by rw [hds]; exact List.mem_map.2 ⟨d, hd, rfl⟩)
        · intro y hy
          rcases List.mem_append.1 hy with hy | hy
          · exact hdD y hy
          · rw [List.mem_singleton] at hy; subst hy; exact hx
/-- at its end it has handed out the map, in some order -/
theorem Iter.perm (h : Iter K w r g D done) (hall : ∀ x ∈ D, x ∈ done) : done.Perm D := by
  obtain ⟨_, _, _, _, _, _, _, _, hn, _, _, _, _, _, ds, _, _, _, hdn, hdD⟩ := h
  exact (List.perm_ext_iff_of_nodup (nodup_of_map _ hdn) (nodup_of_map _ hn)).2 (fun x => ⟨hdD x, hall x⟩)
end
end Go.Proofs.Ytjdobjcbmmdjeaa
