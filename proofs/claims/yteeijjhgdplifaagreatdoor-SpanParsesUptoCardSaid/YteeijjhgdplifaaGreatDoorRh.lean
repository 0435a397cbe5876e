/- REGIONS THAT DRAW THEIR ORDER (effects in any order), walked once: under an invariant of worlds each operation comes to one value (or, at an effect, to any of some), whenever it is its turn. No program in sight. -/
import Derived.WalkKit
namespace Go.Proofs.YteeijjhgdplifaaGreatDoor
open Go

/-- What an operation comes to: a value and a world of R. -/
def Out (P : Program) (R : Value → World → Prop) : Result Next → Prop
  | .ok (.value v) w' => R v w'
  | .ok .skip w' => R undef w'
  | .ok (.enter f args) w' => Calls P f args w' fun e w'' => ∃ v, e = .returned v ∧ R v w''
  | .ok (.row row args) w' => Rows P row args w' R
  | _ => False

def Runs (P : Program) (ops : Array Oper) (o : Oper) (a : Act) (w : World) (R : Value → World → Prop) : Prop :=
  if Region.wanted o (yielded ops a.tmps) = true then Out P R ((execOp a.eval o).run P w) else R undef w

/-- what holds of every world of an invariant, behind a name that the walk's simp takes for a fact -/
def Now (J : World → Prop) (w : World) : Prop := J w
/-- 'is', behind a name that the walk does not open -/
def Is {α : Type} (x y : α) : Prop := x = y
theorem Is.rfl' {α : Type} {x : α} : Is x x := rfl

section
variable {P : Program} {ops : Array Oper} {o : Oper} {a : Act} {w : World} {R : Value → World → Prop}

@[go_sem] theorem Out_value (v : Value) (w : World) : Out P R (.ok (.value v) w) = R v w := rfl
@[go_sem] theorem Out_skip (w : World) : Out P R (.ok .skip w) = R undef w := rfl
@[go_sem] theorem Out_enter (f : FuncId) (args : Array Value) (w : World) : Out P R (.ok (.enter f args) w) = Calls P f args w fun e w'' => ∃ v, e = .returned v ∧ R v w'' := rfl
@[go_sem] theorem Out_row (row : String) (args : Array Value) (w : World) : Out P R (.ok (.row row args) w) = Rows P row args w R := rfl

@[go_sem] theorem Runs_none (d : Option Tmp) (op : Op) (t : TypeId) (p : String) (af : Array Edge) : Runs P ops ⟨d, op, t, p, af, none⟩ a w R = Out P R ((execOp a.eval ⟨d, op, t, p, af, none⟩).run P w) := by
  simp [Runs, Region.wanted]
@[go_sem] theorem Runs_some (d : Option Tmp) (op : Op) (t : TypeId) (p : String) (af : Array Edge) (g : Nat) (b : Bool) :
    Runs P ops ⟨d, op, t, p, af, some (g, b)⟩ a w R = if Region.wanted ⟨d, op, t, p, af, some (g, b)⟩ (yielded ops a.tmps) = true then Out P R ((execOp a.eval ⟨d, op, t, p, af, some (g, b)⟩).run P w) else R undef w := rfl

theorem Out.mono {R' : Value → World → Prop} (h : ∀ v w, R v w → R' v w) {r : Result Next} (hh : Out P R r) : Out P R' r := by
  cases r with
  | ok n w' =>
    cases n <;> simp only [Out] at hh ⊢
    case value v => exact h _ _ hh
    case skip => exact h _ _ hh
    case enter f args => exact hh.mono fun e w'' ⟨v, he, hr⟩ => ⟨v, he, h _ _ hr⟩
    case row row args => exact hh.mono fun _ _ hr => h _ _ hr
  | halt x w' => exact hh.elim
theorem Runs.mono {R' : Value → World → Prop} (h : ∀ v w, R v w → R' v w) (hh : Runs P ops o a w R) : Runs P ops o a w R' := by
  unfold Runs at *
  split
  · rename_i hw; rw [if_pos hw] at hh; exact hh.mono h
  · rename_i hw; rw [if_neg hw] at hh; exact h _ _ hh
theorem Runs.put (hs : ∀ cs b, o.op ≠ .select cs b) (dst : Option Tmp) (v : Value) (h : ∀ d, dst = some d → d ∉ o.looksAt ops) : Runs P ops o (a.put dst v) w R = Runs P ops o a w R := by
  unfold Runs
  rw [wanted_put o a dst v h, execOp_put o hs a dst v h]
theorem Runs.wpOp {i : Nat} (hi : ops[i]? = some o) {K : Act → World → Prop} {Q : Exit → Act → World → Prop} (h : Runs P ops o a w fun v w' => K (a.put o.dst v) w') : wpOp P ops Q i K a w := by
  unfold Go.wpOp
  simp only [hi]
  unfold Runs at h
  split
  · rename_i hw
    rw [if_pos hw] at h
    refine .inl ?_
    unfold Oper.wp
    generalize (execOp a.eval o).run P w = r at *
    cases r with
    | ok n w' =>
      cases n <;> simp only [Out] at h <;> simp only [Oper.upon]
      case value v => exact h
      case skip => exact h
      case enter f args => exact h.mono fun e w'' ⟨v, he, hr⟩ => by subst he; exact hr
      case row row args => exact h
    | halt x w' => exact h.elim
  · rename_i hw; rw [if_neg hw] at h; exact h
end

/-- What the effects that have been done came to. -/
abbrev Done := Nat → Option Value
def Done.put (σ : Done) (e : Nat) (v : Value) : Done := fun k => if k = e then some v else σ k
def Done.none : Done := fun _ => Option.none
theorem Done.put_same (σ : Done) (e : Nat) (v : Value) : σ.put e v e = some v := by simp [Done.put]
theorem Done.put_other (σ : Done) (e k : Nat) (v : Value) (h : k ≠ e) : σ.put e v k = σ k := by simp [Done.put, h]
theorem Done.put_comm (σ : Done) (e k : Nat) (v u : Value) (h : e ≠ k) : (σ.put e v).put k u = (σ.put k u).put e v := by
  funext j
  by_cases h1 : j = k
  · subst h1; simp [Done.put, h.symm]
  · by_cases h2 : j = e
    · subst h2; simp [Done.put, h1]
    · simp [Done.put, h1, h2]

theorem now_of (Inv : Done → World → Prop) : ∃ J : World → Prop, RowKit.Hid (∀ τ wI, Inv τ wI → Now J wI) ∧ RowKit.Hid (∀ wI, Now J wI → ∃ τ, Inv τ wI) :=
  ⟨fun wI => ∃ τ, Inv τ wI, fun τ _ h => ⟨τ, h⟩, fun _ h => h⟩

/-- i: the operation; eff: an effect (what it comes to is not known ahead); need: the effects that it leans on; wait: the effects that come behind it. -/
structure Item where
  i : Nat
  eff : Bool
  need : List Nat
  wait : List Nat

/-- the states in which an item may come up -/
def At (x : Item) (σ τ : Done) : Prop := (∀ e ∈ x.need, τ e = σ e) ∧ (∀ e ∈ x.wait, τ e = none)

def WpI (P : Program) (ops : Array Oper) (Inv : Done → World → Prop) (Sh : Nat → Value → Prop) (Q : Act → World → Prop) : List Item → Done → Act → Prop
  | [], σ, a => ∀ w, Inv σ w → Q a w
  | x :: L, σ, a => ∃ o, ops[x.i]? = some o ∧
      if x.eff = true then (∀ τ w, At x σ τ → τ x.i = none → Inv τ w → Runs P ops o a w fun v w' => Sh x.i v ∧ Inv (τ.put x.i v) w') ∧ ∀ v, Sh x.i v → WpI P ops Inv Sh Q L (σ.put x.i v) (a.put o.dst v)
      else ∃ v, (∀ τ w, At x σ τ → Inv τ w → Runs P ops o a w fun v' w' => Inv τ w' ∧ Is v' v) ∧ WpI P ops Inv Sh Q L σ (a.put o.dst v)

section
variable {P : Program} {ops : Array Oper} {Inv : Done → World → Prop} {Sh : Nat → Value → Prop} {Q : Act → World → Prop} {L : List Item} {σ : Done} {a : Act} {i : Nat} {need wait : List Nat} {o : Oper}

theorem WpI.done (h : ∀ w, Inv σ w → Q a w) : WpI P ops Inv Sh Q [] σ a := h
/-- an operation that comes to one value -/
theorem WpI.pure (ho : ops[i]? = some o) (v : Value) (h : ∀ τ w, At ⟨i, false, need, wait⟩ σ τ → Inv τ w → Runs P ops o a w fun v' w' => Inv τ w' ∧ Is v' v) (hr : WpI P ops Inv Sh Q L σ (a.put o.dst v)) : WpI P ops Inv Sh Q (⟨i, false, need, wait⟩ :: L) σ a := by
  refine ⟨o, ho, ?_⟩
  simp only [Bool.false_eq_true, if_false]
  exact ⟨v, h, hr⟩
/-- an effect -/
theorem WpI.effect (ho : ops[i]? = some o) (h : ∀ τ w, At ⟨i, true, need, wait⟩ σ τ → τ i = none → Inv τ w → Runs P ops o a w fun v w' => Sh i v ∧ Inv (τ.put i v) w') (hr : ∀ v, Sh i v → WpI P ops Inv Sh Q L (σ.put i v) (a.put o.dst v)) : WpI P ops Inv Sh Q (⟨i, true, need, wait⟩ :: L) σ a := by
  refine ⟨o, ho, ?_⟩
  simp only [if_true]
  exact ⟨h, hr⟩

theorem At.put {x : Item} {σ τ : Done} {e : Nat} {v : Value} (h : e ∉ x.need) : At x (σ.put e v) τ ↔ At x σ τ := by
  unfold At
  constructor
  · rintro ⟨h1, h2⟩
    exact ⟨fun k hk => by rw [h1 k hk, Done.put_other _ _ _ _ (fun he => h (by rw [← he]; exact hk))], h2⟩
  · rintro ⟨h1, h2⟩
    exact ⟨fun k hk => by rw [h1 k hk, Done.put_other _ _ _ _ (fun he => h (by rw [← he]; exact hk))], h2⟩

theorem WpI.swap {x y : Item} {ox oy : Oper} (hne : x.i ≠ y.i) (hsh : ∀ e, ∃ v, Sh e v) (hx : ops[x.i]? = some ox) (hy : ops[y.i]? = some oy) (hap : ox.apart ops oy = true)
    (hsx : ∀ cs b, ox.op ≠ .select cs b) (hsy : ∀ cs b, oy.op ≠ .select cs b) (hyx : y.eff = true → y.i ∉ x.need) (hxy : x.eff = true → y.eff = true ∧ x.i ∉ y.need)
    (h : WpI P ops Inv Sh Q (x :: y :: L) σ a) : WpI P ops Inv Sh Q (y :: x :: L) σ a := by
  obtain ⟨h1, h2, h3⟩ := Oper.apart_spec hap
  obtain ⟨o1, ho1, h⟩ := h
  obtain rfl := Option.some.inj (hx.symm.trans ho1)
  by_cases hxe : x.eff = true
  · obtain ⟨hye, hn⟩ := hxy hxe
    simp only [hxe, if_true] at h
    obtain ⟨hx1, h⟩ := h
    have hy1 : ∀ τ w, At y σ τ → τ y.i = none → Inv τ w → Runs P ops oy a w fun v w' => Sh y.i v ∧ Inv (τ.put y.i v) w' := by
      obtain ⟨v, hv⟩ := hsh x.i
      obtain ⟨o2, ho2, h⟩ := h v hv
      obtain rfl := Option.some.inj (hy.symm.trans ho2)
      simp only [hye, if_true] at h
      intro τ w h4 h5 h6
      have := h.1 τ w ((At.put hn).2 h4) h5 h6
      rwa [Runs.put hsy _ _ h1] at this
    refine ⟨oy, hy, ?_⟩
    simp only [hye, if_true]
    refine ⟨hy1, fun u hu => ⟨ox, hx, ?_⟩⟩
    simp only [hxe, if_true]
    refine ⟨fun τ w h4 h5 h6 => by rw [Runs.put hsx _ _ h3]; exact hx1 τ w ((At.put (hyx hye)).1 h4) h5 h6, fun v hv => ?_⟩
    obtain ⟨o2, ho2, h⟩ := h v hv
    obtain rfl := Option.some.inj (hy.symm.trans ho2)
    simp only [hye, if_true] at h
    rw [Done.put_comm _ _ _ _ _ hne.symm, ← Act.put_comm a v u h2]
    exact h.2 u hu
  · simp only [hxe] at h
    obtain ⟨vx, hx1, o2, ho2, h⟩ := h
    obtain rfl := Option.some.inj (hy.symm.trans ho2)
    refine ⟨oy, hy, ?_⟩
    by_cases he : y.eff = true
    · simp only [he, if_true] at h ⊢
      refine ⟨fun τ w h4 h5 h6 => by have := h.1 τ w h4 h5 h6; rwa [Runs.put hsy _ _ h1] at this, fun v hv => ⟨ox, hx, ?_⟩⟩
      simp only [hxe]
      refine ⟨vx, fun τ w h4 h5 => ?_, by rw [← Act.put_comm a vx v h2]; exact h.2 v hv⟩
      rw [Runs.put hsx _ _ h3]
      exact hx1 τ w ((At.put (hyx he)).1 h4) h5
    · simp only [he] at h ⊢
      obtain ⟨vy, hy1, h⟩ := h
      refine ⟨vy, fun τ w h4 h5 => by have := hy1 τ w h4 h5; rwa [Runs.put hsy _ _ h1] at this, ox, hx, ?_⟩
      simp only [hxe]
      refine ⟨vx, fun τ w h4 h5 => ?_, by rw [← Act.put_comm a vx vy h2]; exact h⟩
      rw [Runs.put hsx _ _ h3]
      exact hx1 τ w h4 h5
end

/-- j comes behind i -/
inductive Reach (ops : Array Oper) : Nat → Nat → Prop
  | one {j : Nat} {o : Oper} {e : Edge} (ho : ops[j]? = some o) (he : e ∈ o.after) (hb : Region.binds .any e = true) : Reach ops j e.on
  | step {j i : Nat} {o : Oper} {e : Edge} (ho : ops[j]? = some o) (he : e ∈ o.after) (hb : Region.binds .any e = true) (h : Reach ops e.on i) : Reach ops j i

def masks (ops : Array Oper) : Nat → Array Nat
  | 0 => #[]
  | k + 1 => (masks ops k).push (match ops[k]? with
    | some o => o.after.toList.foldl (fun s e => if Region.binds .any e = true then s ||| 2 ^ e.on ||| (masks ops k).getD e.on 0 else s) 0
    | none => 0)

theorem masks_size (ops : Array Oper) (k : Nat) : (masks ops k).size = k := by induction k with
  | zero => rfl
  | succ k ih => simp [masks, ih]

theorem masks_reach (ops : Array Oper) (k : Nat) : ∀ i j, ((masks ops k).getD i 0).testBit j = true → Reach ops i j := by
  induction k with
  | zero => intro i j h; simp [masks] at h
  | succ k ih =>
    intro i j h
    by_cases hi : i < k
    · refine ih i j ?_
      have e : (masks ops (k + 1)).getD i 0 = (masks ops k).getD i 0 := by
        simp only [masks, Array.getD_eq_getD_getElem?]
        rw [Array.getElem?_push, if_neg (by rw [masks_size]; omega)]
      rwa [e] at h
    · by_cases hk : i = k
      · subst hk
        have e : (masks ops (i + 1)).getD i 0 = (match ops[i]? with
            | some o => o.after.toList.foldl (fun s e => if Region.binds .any e = true then s ||| 2 ^ e.on ||| (masks ops i).getD e.on 0 else s) 0
            | none => 0) := by
          simp only [masks, Array.getD_eq_getD_getElem?]
          rw [Array.getElem?_push, if_pos (masks_size ops i).symm]
          rfl
        rw [e] at h
        cases ho : ops[i]? with
        | none => simp [ho] at h
        | some o =>
          simp only [ho] at h
          have key : ∀ (l : List Edge) (s : Nat), (∀ e ∈ l, e ∈ o.after) → (s.testBit j = true → Reach ops i j) →
              (l.foldl (fun s e => if Region.binds .any e = true then s ||| 2 ^ e.on ||| (masks ops i).getD e.on 0 else s) s).testBit j = true → Reach ops i j := by
            intro l
            induction l with
            | nil => intro s _ hs h; exact hs h
            | cons e l ihl =>
              intro s hl hs h
              refine ihl _ (fun e' h' => hl e' (List.mem_cons_of_mem _ h')) (fun hb => ?_) h
              by_cases hbe : Region.binds .any e = true
              · simp only [hbe, if_true, Nat.testBit_or, Bool.or_eq_true] at hb
                rcases hb with (hb | hb) | hb
                · exact hs hb
                · rw [Nat.testBit_two_pow] at hb
                  have : e.on = j := by simpa using hb
                  subst this
                  exact .one ho (hl e List.mem_cons_self) hbe
                · exact .step ho (hl e List.mem_cons_self) hbe (ih e.on j hb)
              · simp only [hbe] at hb
                exact hs hb
          exact key o.after.toList 0 (fun e he => by simpa using he) (by simp) h
      · have : (masks ops (k + 1)).getD i 0 = 0 := by
          rw [Array.getD_eq_getD_getElem?, Array.getElem?_eq_none (by rw [masks_size]; omega)]; rfl
        rw [this] at h
        simp at h

def noSelect (o : Oper) : Bool := match o.op with | .select _ _ => false | _ => true
theorem noSelect_spec {o : Oper} (h : noSelect o = true) : ∀ cs b, o.op ≠ .select cs b := by
  intro cs b e
  simp [noSelect, e] at h

/-- p stands ahead of q in the list. -/
def pairB (ops : Array Oper) (ms : Array Nat) (p q : Item) : Bool :=
  (match ops[p.i]?, ops[q.i]? with
   | some op, some oq => ((ms.getD q.i 0).testBit p.i || (op.apart ops oq && (!q.eff || !p.need.contains q.i) && (!p.eff || (q.eff && !q.need.contains p.i)))) && op.after.toList.all (fun e => !Region.binds .any e || e.on != q.i)
   | _, _ => false) && p.i != q.i
def itemB (ops : Array Oper) (ms : Array Nat) (p : Item) : Bool := (match ops[p.i]? with
  | some o => noSelect o && o.after.toList.all (fun e => !Region.binds .any e || (decide (e.on < ops.size) && e.on != p.i))
  | none => false) && p.wait.all (fun e => (ms.getD e 0).testBit p.i)
def pairsB (ops : Array Oper) (ms : Array Nat) : List Item → Bool
  | [] => true
  | x :: L => L.all (pairB ops ms x) && pairsB ops ms L
def okB (ops : Array Oper) (L : List Item) : Bool := L.length == ops.size && L.all (itemB ops (masks ops ops.size)) && pairsB ops (masks ops ops.size) L

section
variable {P : Program} {ops : Array Oper} {Inv : Done → World → Prop} {Sh : Nat → Value → Prop}

structure Pair (ops : Array Oper) (p q : Item) : Prop where
  ne : p.i ≠ q.i
  free : Reach ops q.i p.i ∨ ((∀ op oq, ops[p.i]? = some op → ops[q.i]? = some oq → op.apart ops oq = true) ∧ (q.eff = true → q.i ∉ p.need) ∧ (p.eff = true → q.eff = true ∧ p.i ∉ q.need))
  top : ∀ op, ops[p.i]? = some op → ∀ e ∈ op.after, Region.binds .any e = true → e.on ≠ q.i

theorem pair_of {p q : Item} (h : pairB ops (masks ops ops.size) p q = true) : Pair ops p q := by
  unfold pairB at h
  cases hp : ops[p.i]? with
  | none => simp [hp] at h
  | some op =>
    cases hq : ops[q.i]? with
    | none => simp [hp, hq] at h
    | some oq =>
      simp only [hp, hq, Bool.and_eq_true, Bool.or_eq_true, bne_iff_ne, ne_eq, Bool.not_eq_true', List.all_eq_true, List.contains_eq_mem, decide_eq_false_iff_not] at h
      obtain ⟨⟨h1, h2⟩, h3⟩ := h
      refine ⟨h3, ?_, fun op' ho' e he hb => ?_⟩
      · rcases h1 with h1 | ⟨⟨h1, h4⟩, h5⟩
        · exact .inl (masks_reach ops _ _ _ h1)
        · refine .inr ⟨fun op' oq' e1 e2 => by obtain rfl := Option.some.inj (hp.symm.trans e1); obtain rfl := Option.some.inj (hq.symm.trans e2); exact h1, fun he => ?_, fun he => ?_⟩
          · rcases h4 with h4 | h4
            · rw [he] at h4; cases h4
            · exact h4
          · rcases h5 with h5 | h5
            · rw [he] at h5; cases h5
            · exact h5
      · obtain rfl := Option.some.inj (hp.symm.trans ho')
        rcases h2 e (by simpa using he) with h2 | h2
        · rw [hb] at h2; cases h2
        · exact h2

theorem WpI.pull {Q : Act → World → Prop} (hsh : ∀ e, ∃ v, Sh e v) {x : Item} {ox : Oper} (hx : ops[x.i]? = some ox) (hsx : ∀ cs b, ox.op ≠ .select cs b) : ∀ (pre post : List Item) (σ : Done) (a : Act),
    (∀ p ∈ pre, p.i ≠ x.i ∧ (x.eff = true → x.i ∉ p.need) ∧ (p.eff = true → x.eff = true ∧ p.i ∉ x.need) ∧ ∃ op, ops[p.i]? = some op ∧ op.apart ops ox = true ∧ ∀ cs b, op.op ≠ .select cs b) →
    WpI P ops Inv Sh Q (pre ++ x :: post) σ a → WpI P ops Inv Sh Q (x :: (pre ++ post)) σ a
  | [], _, _, _, _, h => h
  | p :: pre, post, σ, a, hp, h => by
    obtain ⟨hne, h1, h2, op, ho, hap, hs⟩ := hp p List.mem_cons_self
    refine WpI.swap hne hsh ho hx hap hs hsx h1 h2 ?_
    obtain ⟨o1, ho1, h⟩ := h
    refine ⟨o1, ho1, ?_⟩
    by_cases he : p.eff = true
    · simp only [he, if_true] at h ⊢
      exact ⟨h.1, fun v hv => WpI.pull hsh hx hsx pre post _ _ (fun q hq => hp q (List.mem_cons_of_mem _ hq)) (h.2 v hv)⟩
    · simp only [he] at h ⊢
      obtain ⟨v, h1, h2⟩ := h
      exact ⟨v, h1, WpI.pull hsh hx hsx pre post _ _ (fun q hq => hp q (List.mem_cons_of_mem _ hq)) h2⟩

theorem reach_listed {listed : Array Bool} (hcl : ∀ j oj, ops[j]? = some oj → listed.getD j false = true → ∀ e ∈ oj.after, Region.binds .any e = true → listed.getD e.on false = true) {i j : Nat} (h : Reach ops i j) :
    (listed.getD i false = true ∨ i ∈ Region.ready .any ops listed) → listed.getD j false = true := by
  induction h with
  | one ho he hb =>
    intro h
    rcases h with h | h
    · exact hcl _ _ ho h _ he hb
    · obtain ⟨_, o', ho', hall⟩ := mem_ready.1 h
      obtain rfl := Option.some.inj (ho.symm.trans ho')
      exact hall _ he hb
  | step ho he hb _ ih =>
    intro h
    refine ih (.inl ?_)
    rcases h with h | h
    · exact hcl _ _ ho h _ he hb
    · obtain ⟨_, o', ho', hall⟩ := mem_ready.1 h
      obtain rfl := Option.some.inj (ho.symm.trans ho')
      exact hall _ he hb

theorem getD_ff {listed : Array Bool} {i : Nat} (h : listed.getD i true = false) : listed.getD i false = false := by
  rcases Nat.lt_or_ge i listed.size with h' | h'
  · simp [h'] at h ⊢; exact h
  · simp [Array.getElem?_eq_none h'] at h

theorem WpI.any {Q : Exit → Act → World → Prop} (hsh : ∀ e, ∃ v, Sh e v) : ∀ (fuel : Nat) (L : List Item) (σ : Done) (listed : Array Bool) (a : Act) (w : World), L.length = fuel → listed.size = ops.size →
    (∀ j, listed.getD j true = false ↔ j ∈ L.map Item.i) → L.Pairwise (Pair ops) → (∀ p ∈ L, itemB ops (masks ops ops.size) p = true) → (∀ j, listed.getD j false = false → σ j = none) →
    (∀ j oj, ops[j]? = some oj → listed.getD j false = true → ∀ e ∈ oj.after, Region.binds .any e = true → listed.getD e.on false = true) →
    WpI P ops Inv Sh (fun a w => Q .normal a w) L σ a → Inv σ w → wpAny P .any ops Q fuel listed a w := by
  intro fuel
  induction fuel with
  | zero =>
    intro L σ listed a w hL _ hun _ _ _ _ h hI
    obtain rfl := List.eq_nil_of_length_eq_zero hL
    refine ⟨?_, h w hI⟩
    rw [List.eq_nil_iff_forall_not_mem]
    intro j hj
    have := (hun j).1 (mem_ready.1 hj).1
    simp at this
  | succ fuel ih =>
    intro L σ listed a w hL hsz hun hpw hit hdom hcl h hI
    have hall : ∀ p ∈ L, ∃ o, ops[p.i]? = some o ∧ (∀ cs b, o.op ≠ .select cs b) ∧ (∀ e ∈ o.after, Region.binds .any e = true → e.on < ops.size ∧ e.on ≠ p.i) ∧ ∀ e ∈ p.wait, Reach ops e p.i := by
      intro p hp
      have := hit p hp
      unfold itemB at this
      cases ho : ops[p.i]? with
      | none => simp [ho] at this
      | some o =>
        simp only [ho, Bool.and_eq_true, List.all_eq_true, Bool.or_eq_true, Bool.not_eq_true', bne_iff_ne, ne_eq, decide_eq_true_eq] at this
        refine ⟨o, rfl, noSelect_spec this.1.1, fun e he hb => ?_, fun e he => masks_reach ops _ _ _ (this.2 e he)⟩
        rcases this.1.2 e (by simpa using he) with h1 | h1
        · rw [hb] at h1; cases h1
        · exact h1
    refine ⟨fun hnil => ?_, fun i hi => ?_⟩
    · cases L with
      | nil => simp at hL
      | cons x L =>
        exfalso
        obtain ⟨o, ho, _, he, _⟩ := hall x List.mem_cons_self
        have hxr : x.i ∈ Region.ready .any ops listed := by
          refine mem_ready.2 ⟨(hun x.i).2 (by simp), o, ho, fun e hee hb => ?_⟩
          obtain ⟨h1, h2⟩ := he e hee hb
          have hnot : e.on ∉ (x :: L).map Item.i := by
            intro hm
            simp only [List.map_cons, List.mem_cons, List.mem_map] at hm
            rcases hm with hm | ⟨q, hq, hm⟩
            · exact h2 hm
            · exact ((List.pairwise_cons.1 hpw).1 q hq).top o ho e hee hb hm.symm
          have h3 : listed.getD e.on true ≠ false := fun h => hnot ((hun _).1 h)
          have h4 : e.on < listed.size := by omega
          simp [h4] at h3 ⊢
          exact h3
        rw [hnil] at hxr
        cases hxr
    · have hiL := (hun i).1 (mem_ready.1 hi).1
      obtain ⟨x, hx, rfl⟩ := List.mem_map.1 hiL
      obtain ⟨pre, post, rfl⟩ := List.append_of_mem hx
      obtain ⟨ox, hox, hsx, _, hwt⟩ := hall x hx
      have hxun : listed.getD x.i false = false := getD_ff (mem_ready.1 hi).1
      have hpre : ∀ p ∈ pre, Pair ops p x := fun p hp => (List.pairwise_append.1 hpw).2.2 p hp x List.mem_cons_self
      have hpre2 : ∀ p ∈ pre, p.i ≠ x.i ∧ (x.eff = true → x.i ∉ p.need) ∧ (p.eff = true → x.eff = true ∧ p.i ∉ x.need) ∧ ∃ op, ops[p.i]? = some op ∧ op.apart ops ox = true ∧ ∀ cs b, op.op ≠ .select cs b := by
        intro p hp
        obtain ⟨op, hop, hs, _⟩ := hall p (by simp [hp])
        rcases (hpre p hp).free with h1 | ⟨h2, h3, h4⟩
        · have h4 := reach_listed hcl h1 (.inr hi)
          have h5 : listed.getD p.i true = false := (hun _).2 (List.mem_map.2 ⟨p, by simp [hp], rfl⟩)
          rw [getD_ff h5] at h4
          cases h4
        · exact ⟨(hpre p hp).ne, h3, h4, op, hop, h2 _ _ hop hox, hs⟩
      have h1 := WpI.pull (P := P) (Inv := Inv) hsh hox hsx pre post σ a hpre2 h
      have hAt : At x σ σ := ⟨fun _ _ => rfl, fun e he => hdom e (by
        cases hl : listed.getD e false with
        | false => rfl
        | true =>
          have := reach_listed hcl (hwt e he) (.inl hl)
          rw [hxun] at this
          cases this)⟩
      have hpw2 : (pre ++ post).Pairwise (Pair ops) := hpw.sublist (by simp)
      have hne : ∀ q ∈ pre ++ post, q.i ≠ x.i := by
        intro q hq
        rcases List.mem_append.1 hq with hq | hq
        · exact (hpre q hq).ne
        · exact ((List.pairwise_cons.1 (List.pairwise_append.1 hpw).2.1).1 q hq).ne.symm
      have hun2 : ∀ j, (listed.setIfInBounds x.i true).getD j true = false ↔ j ∈ (pre ++ post).map Item.i := by
        intro j
        by_cases hj : x.i = j
        · subst hj
          constructor
          · intro hh
            exfalso
            have hlt : x.i < listed.size := by rw [hsz]; exact (Array.getElem?_eq_some_iff.1 hox).1
            simp [hlt] at hh
          · intro hh
            obtain ⟨q, hq, e⟩ := List.mem_map.1 hh
            exact absurd e (hne q hq)
        · rw [getD_set_ne true hj, hun j]
          simp only [List.map_append, List.map_cons, List.mem_append, List.mem_cons]
          constructor
          · rintro (h | h | h)
            · exact .inl h
            · exact absurd h.symm hj
            · exact .inr h
          · rintro (h | h)
            · exact .inl h
            · exact .inr (.inr h)
      have hcl2 : ∀ j oj, ops[j]? = some oj → (listed.setIfInBounds x.i true).getD j false = true → ∀ e ∈ oj.after, Region.binds .any e = true → (listed.setIfInBounds x.i true).getD e.on false = true := by
        intro j oj hj hl e he hb
        by_cases hij : x.i = j
        · subst hij
          obtain ⟨_, o', ho', hall'⟩ := mem_ready.1 hi
          obtain rfl := Option.some.inj (hj.symm.trans ho')
          exact getD_set_true (hall' e he hb)
        · rw [getD_set_ne false hij] at hl
          exact getD_set_true (hcl j oj hj hl e he hb)
      have hnl : ∀ j, (listed.setIfInBounds x.i true).getD j false = false → j ≠ x.i ∧ listed.getD j false = false := by
        intro j hj
        by_cases hij : x.i = j
        · subst hij
          have hlt : x.i < listed.size := by rw [hsz]; exact (Array.getElem?_eq_some_iff.1 hox).1
          simp [hlt] at hj
        · rw [getD_set_ne false hij] at hj
          exact ⟨Ne.symm hij, hj⟩
      have hlen : (pre ++ post).length = fuel := by simp at hL ⊢; omega
      have hit2 : ∀ p ∈ pre ++ post, itemB ops (masks ops ops.size) p = true := fun p hp => hit p (by rcases List.mem_append.1 hp with h | h <;> simp [h])
      obtain ⟨o', ho', h2⟩ := h1
      obtain rfl := Option.some.inj (hox.symm.trans ho')
      refine Runs.wpOp hox ?_
      by_cases he : x.eff = true
      · simp only [he, if_true] at h2
        exact (h2.1 σ w hAt (hdom _ hxun) hI).mono fun v w' ⟨hs, hI'⟩ => ih _ (σ.put x.i v) _ _ w' hlen (by simpa using hsz) hun2 hpw2 hit2
          (fun j hj => by obtain ⟨h5, h6⟩ := hnl j hj; rw [Done.put_other _ _ _ _ h5]; exact hdom j h6) hcl2 (h2.2 v hs) hI'
      · simp only [he] at h2
        obtain ⟨v, h3, h4⟩ := h2
        refine (h3 σ w hAt hI).mono fun v' w' ⟨hI', hv⟩ => ?_
        obtain rfl : v' = v := hv
        exact ih _ σ _ _ w' hlen (by simpa using hsz) hun2 hpw2 hit2 (fun j hj => hdom j (hnl j hj).2) hcl2 h4 hI'

theorem pairs_of (ms : Array Nat) (hms : ms = masks ops ops.size) : ∀ L, pairsB ops ms L = true → L.Pairwise (Pair ops)
  | [], _ => .nil
  | x :: L, h => by
    subst hms
    simp only [pairsB, Bool.and_eq_true, List.all_eq_true] at h
    exact .cons (fun q hq => pair_of (h.1 q hq)) (pairs_of _ rfl L h.2)

/-- A REGION THAT DRAWS ITS ORDER, walked in the list's order, under an invariant. -/
theorem wp_region_inv {id : Nat} {Q : Exit → Act → World → Prop} {a : Act} {w : World} (hm : P.follows .mixedOrders = true) (L : List Item) (hok : okB ops L = true) (Inv : Done → World → Prop) (Sh : Nat → Value → Prop) (hsh : ∀ e, ∃ v, Sh e v)
    (h0 : Inv Done.none w.drew) (h : WpI P ops Inv Sh (fun a w => Q .normal a w) L Done.none a) : (Code.region id ops true).wp P Q a w := by
  refine wp_region_any hm ?_
  simp only [okB, Bool.and_eq_true, beq_iff_eq, List.all_eq_true] at hok
  obtain ⟨⟨h1, h2⟩, h4⟩ := hok
  have hpw := pairs_of (ops := ops) _ rfl L h4
  have hlt : ∀ p ∈ L, p.i < ops.size := by
    intro p hp
    have := h2 p hp
    unfold itemB at this
    cases ho : ops[p.i]? with
    | none => simp [ho] at this
    | some o => exact (Array.getElem?_eq_some_iff.1 ho).1
  have hnd : (L.map Item.i).Nodup := by
    rw [List.Nodup, List.pairwise_map]
    exact hpw.imp (fun h => h.ne)
  have hperm : ∀ j, j < ops.size → j ∈ L.map Item.i := by
    intro j hj
    apply Classical.byContradiction
    intro hn
    have hsub : ∀ x ∈ (j :: L.map Item.i), x ∈ List.range ops.size := by
      intro x hx
      rcases List.mem_cons.1 hx with rfl | hx
      · exact List.mem_range.2 hj
      · obtain ⟨p, hp, rfl⟩ := List.mem_map.1 hx; exact List.mem_range.2 (hlt p hp)
    have := (List.nodup_cons.2 ⟨hn, hnd⟩).length_le_of_subset hsub
    simp at this
    omega
  refine WpI.any hsh ops.size L Done.none _ a _ h1 (by simp) (fun j => ?_) hpw h2 (fun _ _ => rfl) (fun j oj _ hl => ?_) h h0
  · rcases Nat.lt_or_ge j ops.size with hj | hj
    · simp [hj, hperm j hj]
    · constructor
      · intro hh; simp [hj] at hh
      · intro hh
        obtain ⟨p, hp, rfl⟩ := List.mem_map.1 hh
        have := hlt p hp
        omega
  · rcases Nat.lt_or_ge j ops.size with h | h
    · simp [h] at hl
    · simp [h] at hl
end
#print axioms wp_region_inv
end Go.Proofs.YteeijjhgdplifaaGreatDoor
