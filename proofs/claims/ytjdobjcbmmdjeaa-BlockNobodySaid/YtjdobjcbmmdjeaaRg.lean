/- REGIONS THAT DRAW THEIR ORDER, walked once: under an invariant of worlds each operation comes to one value (or, at an effect, to any of some), whenever it is its turn. No program in sight. -/
import Derived.WalkKit
namespace Go.Proofs.Ytjdobjcbmmdjeaa
open Go

/-- What an operation comes to: a value and a world of R. -/
def Out (P : Program) (R : Value → World → Prop) : Result Next → Prop
  | .ok (.value v) w' => R v w'
  | .ok .skip w' => R undef w'
  | .ok (.enter f args) w' => Calls P f args w' fun e w'' => ∃ v, e = .returned v ∧ R v w''
  | .ok (.row row args) w' => Rows P row args w' R
  | _ => False

def Runs (P : Program) (ops : Array Oper) (o : Oper) (a : Act) (w : World) (R : Value → World → Prop) : Prop :=
  if Region.wanted o (yielded ops a.tmps) = true then Out P R ((execOp a.eval o).run P w) else R undef w

/-- what holds of every world of an invariant, behind a name that the walk's simp takes for a fact -/
def Now (J : World → Prop) (w : World) : Prop := J w
theorem now_of (Inv : List Value → World → Prop) : ∃ J : World → Prop, RowKit.Hid (∀ us wI, Inv us wI → Now J wI) ∧ RowKit.Hid (∀ wI, Now J wI → ∃ us, Inv us wI) :=
  ⟨fun wI => ∃ us, Inv us wI, fun us _ h => ⟨us, h⟩, fun _ h => h⟩
/-- 'is', behind a name that the walk does not open -/
def Is {α : Type} (x y : α) : Prop := x = y
theorem Is.rfl' {α : Type} {x : α} : Is x x := rfl

section
variable {P : Program} {ops : Array Oper} {o : Oper} {a : Act} {w : World} {R : Value → World → Prop}

@[go_sem] theorem Out_value (v : Value) (w : World) : Out P R (.ok (.value v) w) = R v w := rfl
@[go_sem] theorem Out_skip (w : World) : Out P R (.ok .skip w) = R undef w := rfl
@[go_sem] theorem Out_enter (f : FuncId) (args : Array Value) (w : World) : Out P R (.ok (.enter f args) w) = Calls P f args w fun e w'' => ∃ v, e = .returned v ∧ R v w'' := rfl
@[go_sem] theorem Out_row (row : String) (args : Array Value) (w : World) : Out P R (.ok (.row row args) w) = Rows P row args w R := rfl

@[go_sem] theorem Runs_none (d : Option Tmp) (op : Op) (t : TypeId) (p : String) (af : Array Edge) : Runs P ops ⟨d, op, t, p, af, none⟩ a w R = Out P R ((execOp a.eval ⟨d, op, t, p, af, none⟩).run P w) := by
  simp [Runs, Region.wanted]
@[go_sem] theorem Runs_some (d : Option Tmp) (op : Op) (t : TypeId) (p : String) (af : Array Edge) (g : Nat) (b : Bool) :
    Runs P ops ⟨d, op, t, p, af, some (g, b)⟩ a w R = if Region.wanted ⟨d, op, t, p, af, some (g, b)⟩ (yielded ops a.tmps) = true then Out P R ((execOp a.eval ⟨d, op, t, p, af, some (g, b)⟩).run P w) else R undef w := rfl

theorem Out.mono {R' : Value → World → Prop} (h : ∀ v w, R v w → R' v w) {r : Result Next} (hh : Out P R r) : Out P R' r := by
  cases r with
  | ok n w' =>
    cases n <;> simp only [Out] at hh ⊢
    case value v => exact h _ _ hh
    case skip => exact h _ _ hh
    case enter f args => exact hh.mono fun e w'' ⟨v, he, hr⟩ => ⟨v, he, h _ _ hr⟩
    case row row args => exact hh.mono fun _ _ hr => h _ _ hr
  | halt x w' => exact hh.elim
theorem Runs.mono {R' : Value → World → Prop} (h : ∀ v w, R v w → R' v w) (hh : Runs P ops o a w R) : Runs P ops o a w R' := by
  unfold Runs at *
  split
  · rename_i hw; rw [if_pos hw] at hh; exact hh.mono h
  · rename_i hw; rw [if_neg hw] at hh; exact h _ _ hh
theorem Runs.put (hs : ∀ cs b, o.op ≠ .select cs b) (dst : Option Tmp) (v : Value) (h : ∀ d, dst = some d → d ∉ o.looksAt ops) : Runs P ops o (a.put dst v) w R = Runs P ops o a w R := by
  unfold Runs
  rw [wanted_put o a dst v h, execOp_put o hs a dst v h]
theorem Runs.wpOp {i : Nat} (hi : ops[i]? = some o) {K : Act → World → Prop} {Q : Exit → Act → World → Prop} (h : Runs P ops o a w fun v w' => K (a.put o.dst v) w') : wpOp P ops Q i K a w := by
  unfold Go.wpOp
  simp only [hi]
  unfold Runs at h
  split
  · rename_i hw
    rw [if_pos hw] at h
    refine .inl ?_
    unfold Oper.wp
    generalize (execOp a.eval o).run P w = r at *
    cases r with
    | ok n w' =>
      cases n <;> simp only [Out] at h <;> simp only [Oper.upon]
      case value v => exact h
      case skip => exact h
      case enter f args => exact h.mono fun e w'' ⟨v, he, hr⟩ => by subst he; exact hr
      case row row args => exact h
    | halt x w' => exact h.elim
  · rename_i hw; rw [if_neg hw] at h; exact h
end

/-- i: the operation; eff: an effect: what it comes to is not known ahead; hi: an effect's number; else: behind how many effects at most it may come. -/
structure Item where
  i : Nat
  eff : Bool
  hi : Nat

def WpI (P : Program) (ops : Array Oper) (Inv : List Value → World → Prop) (Q : Act → World → Prop) : List Item → List Value → Act → Prop
  | [], vs, a => ∀ w, Inv vs w → Q a w
  | x :: L, vs, a => ∃ o, ops[x.i]? = some o ∧
      if x.eff = true then (∀ w, Inv vs w → Runs P ops o a w fun v w' => Inv (vs ++ [v]) w') ∧ ∀ v, (∃ w, Inv (vs ++ [v]) w) → WpI P ops Inv Q L (vs ++ [v]) (a.put o.dst v)
      else ∃ v, (∀ us, (vs ++ us).length ≤ x.hi → ∀ w, Inv (vs ++ us) w → Runs P ops o a w fun v' w' => Inv (vs ++ us) w' ∧ Is v' v) ∧ WpI P ops Inv Q L vs (a.put o.dst v)

section
variable {P : Program} {ops : Array Oper} {Inv : List Value → World → Prop} {Q : Act → World → Prop} {L : List Item} {vs : List Value} {a : Act} {i n : Nat} {o : Oper}

theorem WpI.done (h : ∀ w, Inv vs w → Q a w) : WpI P ops Inv Q [] vs a := h
/-- an operation that comes to one value -/
theorem WpI.pure (ho : ops[i]? = some o) (hn : vs.length = n) (v : Value) (h : ∀ w, Inv vs w → Runs P ops o a w fun v' w' => Inv vs w' ∧ Is v' v) (hr : WpI P ops Inv Q L vs (a.put o.dst v)) : WpI P ops Inv Q (⟨i, false, n⟩ :: L) vs a := by
  refine ⟨o, ho, ?_⟩
  simp only [Bool.false_eq_true, if_false]
  refine ⟨v, fun us hu w hw => ?_, hr⟩
  have : us = [] := List.eq_nil_of_length_eq_zero (by simp only [List.length_append] at hu; omega)
  subst this
  simp only [List.append_nil] at hw ⊢
  exact h w hw
/-- an operation that comes to one value, behind effects too -/
theorem WpI.later (ho : ops[i]? = some o) (v : Value) (h : ∀ us, (vs ++ us).length ≤ n → ∀ w, Inv (vs ++ us) w → Runs P ops o a w fun v' w' => Inv (vs ++ us) w' ∧ Is v' v) (hr : WpI P ops Inv Q L vs (a.put o.dst v)) : WpI P ops Inv Q (⟨i, false, n⟩ :: L) vs a := by
  refine ⟨o, ho, ?_⟩
  simp only [Bool.false_eq_true, if_false]
  exact ⟨v, h, hr⟩
theorem WpI.effect (ho : ops[i]? = some o) (h : ∀ w, Inv vs w → Runs P ops o a w fun v w' => Inv (vs ++ [v]) w') (hr : ∀ v, (∃ w, Inv (vs ++ [v]) w) → WpI P ops Inv Q L (vs ++ [v]) (a.put o.dst v)) : WpI P ops Inv Q (⟨i, true, n⟩ :: L) vs a := by
  refine ⟨o, ho, ?_⟩
  simp only [if_true]
  exact ⟨h, hr⟩

theorem WpI.swap {x y : Item} {ox oy : Oper} (hx : ops[x.i]? = some ox) (hy : ops[y.i]? = some oy) (hxe : x.eff = false) (hap : ox.apart ops oy = true)
    (hsx : ∀ cs b, ox.op ≠ .select cs b) (hsy : ∀ cs b, oy.op ≠ .select cs b) (h : WpI P ops Inv Q (x :: y :: L) vs a) : WpI P ops Inv Q (y :: x :: L) vs a := by
  obtain ⟨h1, h2, h3⟩ := Oper.apart_spec hap
  obtain ⟨o1, ho1, h⟩ := h
  obtain rfl := Option.some.inj (hx.symm.trans ho1)
  simp only [hxe, Bool.false_eq_true, if_false] at h
  obtain ⟨vx, hx1, o2, ho2, h⟩ := h
  obtain rfl := Option.some.inj (hy.symm.trans ho2)
  refine ⟨oy, hy, ?_⟩
  by_cases he : y.eff = true
  · simp only [he, if_true] at h ⊢
    refine ⟨fun w hw => by have := h.1 w hw; rwa [Runs.put hsy _ _ h1] at this, fun v hv => ⟨ox, hx, ?_⟩⟩
    simp only [hxe, Bool.false_eq_true, if_false]
    refine ⟨vx, fun us hu w hw => ?_, by rw [← Act.put_comm a vx v h2]; exact h.2 v hv⟩
    rw [Runs.put hsx _ _ h3]
    have := hx1 (v :: us) (by simpa using hu) w (by simpa using hw)
    simpa using this
  · simp only [he] at h ⊢
    obtain ⟨vy, hy1, h⟩ := h
    refine ⟨vy, fun us hu w hw => by have := hy1 us hu w hw; rwa [Runs.put hsy _ _ h1] at this, ox, hx, ?_⟩
    simp only [hxe, Bool.false_eq_true, if_false]
    refine ⟨vx, fun us hu w hw => ?_, by rw [← Act.put_comm a vx vy h2]; exact h⟩
    rw [Runs.put hsx _ _ h3]
    exact hx1 us hu w hw
end

/-- j comes behind i -/
inductive Reach (ops : Array Oper) : Nat → Nat → Prop
  | one {j : Nat} {o : Oper} {e : Edge} (ho : ops[j]? = some o) (he : e ∈ o.after) (hb : Region.binds .any e = true) : Reach ops j e.on
  | step {j i : Nat} {o : Oper} {e : Edge} (ho : ops[j]? = some o) (he : e ∈ o.after) (hb : Region.binds .any e = true) (h : Reach ops e.on i) : Reach ops j i

def masks (ops : Array Oper) : Nat → Array Nat
  | 0 => #[]
  | k + 1 => (masks ops k).push (match ops[k]? with
    | some o => o.after.toList.foldl (fun s e => if Region.binds .any e = true then s ||| 2 ^ e.on ||| (masks ops k).getD e.on 0 else s) 0
    | none => 0)

theorem masks_size (ops : Array Oper) (k : Nat) : (masks ops k).size = k := by induction k with
  | zero => rfl
  | succ k ih => simp [masks, ih]

theorem masks_reach (ops : Array Oper) (k : Nat) : ∀ i j, ((masks ops k).getD i 0).testBit j = true → Reach ops i j := by
  induction k with
  | zero => intro i j h; simp [masks] at h
  | succ k ih =>
    intro i j h
    by_cases hi : i < k
    · refine ih i j ?_
      have e : (masks ops (k + 1)).getD i 0 = (masks ops k).getD i 0 := by
        simp only [masks, Array.getD_eq_getD_getElem?]
        rw [Array.getElem?_push, if_neg (by rw [masks_size]; omega)]
      rwa [e] at h
    · by_cases hk : i = k
      · subst hk
        have e : (masks ops (i + 1)).getD i 0 = (match ops[i]? with
            | some o => o.after.toList.foldl (fun s e => if Region.binds .any e = true then s ||| 2 ^ e.on ||| (masks ops i).getD e.on 0 else s) 0
            | none => 0) := by
          simp only [masks, Array.getD_eq_getD_getElem?]
          rw [Array.getElem?_push, if_pos (masks_size ops i).symm]
          rfl
        rw [e] at h
        cases ho : ops[i]? with
        | none => simp [ho] at h
        | some o =>
          simp only [ho] at h
          have key : ∀ (l : List Edge) (s : Nat), (∀ e ∈ l, e ∈ o.after) → (s.testBit j = true → Reach ops i j) →
              (l.foldl (fun s e => if Region.binds .any e = true then s ||| 2 ^ e.on ||| (masks ops i).getD e.on 0 else s) s).testBit j = true → Reach ops i j := by
            intro l
            induction l with
            | nil => intro s _ hs h; exact hs h
            | cons e l ihl =>
              intro s hl hs h
              refine ihl _ (fun e' h' => hl e' (List.mem_cons_of_mem _ h')) (fun hb => ?_) h
              by_cases hbe : Region.binds .any e = true
              · simp only [hbe, if_true, Nat.testBit_or, Bool.or_eq_true] at hb
                rcases hb with (hb | hb) | hb
                · exact hs hb
                · rw [Nat.testBit_two_pow] at hb
                  have : e.on = j := by simpa using hb
                  subst this
                  exact .one ho (hl e List.mem_cons_self) hbe
                · exact .step ho (hl e List.mem_cons_self) hbe (ih e.on j hb)
              · simp only [hbe] at hb
                exact hs hb
          exact key o.after.toList 0 (fun e he => by simpa using he) (by simp) h
      · have : (masks ops (k + 1)).getD i 0 = 0 := by
          rw [Array.getD_eq_getD_getElem?, Array.getElem?_eq_none (by rw [masks_size]; omega)]; rfl
        rw [this] at h
        simp at h

def noSelect (o : Oper) : Bool := match o.op with | .select _ _ => false | _ => true
theorem noSelect_spec {o : Oper} (h : noSelect o = true) : ∀ cs b, o.op ≠ .select cs b := by
  intro cs b e
  simp [noSelect, e] at h

/-- p stands ahead of q in the list. -/
def pairB (ops : Array Oper) (ms : Array Nat) (p q : Item) : Bool :=
  (match ops[p.i]?, ops[q.i]? with
   | some op, some oq => ((ms.getD q.i 0).testBit p.i || (!p.eff && op.apart ops oq && (!q.eff || decide (q.hi + 1 ≤ p.hi)))) && op.after.toList.all (fun e => !Region.binds .any e || e.on != q.i)
   | _, _ => false) && p.i != q.i
def levB : List Item → Nat → Bool
  | [], _ => true
  | x :: L, n => (if x.eff then x.hi == n else decide (n ≤ x.hi)) && levB L (if x.eff then n + 1 else n)
def itemB (ops : Array Oper) (p : Item) : Bool := match ops[p.i]? with
  | some o => noSelect o && o.after.toList.all (fun e => !Region.binds .any e || (decide (e.on < ops.size) && e.on != p.i))
  | none => false
def pairsB (ops : Array Oper) (ms : Array Nat) : List Item → Bool
  | [] => true
  | x :: L => L.all (pairB ops ms x) && pairsB ops ms L
def okB (ops : Array Oper) (L : List Item) : Bool := L.length == ops.size && L.all (itemB ops) && levB L 0 && pairsB ops (masks ops ops.size) L

section
variable {P : Program} {ops : Array Oper} {Inv : List Value → World → Prop}

structure Pair (ops : Array Oper) (p q : Item) : Prop where
  ne : p.i ≠ q.i
  free : Reach ops q.i p.i ∨ (p.eff = false ∧ (∀ op oq, ops[p.i]? = some op → ops[q.i]? = some oq → op.apart ops oq = true) ∧ (q.eff = true → q.hi + 1 ≤ p.hi))
  top : ∀ op, ops[p.i]? = some op → ∀ e ∈ op.after, Region.binds .any e = true → e.on ≠ q.i

theorem pair_of {p q : Item} (h : pairB ops (masks ops ops.size) p q = true) : Pair ops p q := by
  unfold pairB at h
  cases hp : ops[p.i]? with
  | none => simp [hp] at h
  | some op =>
    cases hq : ops[q.i]? with
    | none => simp [hp, hq] at h
    | some oq =>
      simp only [hp, hq, Bool.and_eq_true, Bool.or_eq_true, bne_iff_ne, ne_eq, Bool.not_eq_true', decide_eq_true_eq, List.all_eq_true] at h
      obtain ⟨⟨h1, h2⟩, h3⟩ := h
      refine ⟨h3, ?_, fun op' ho' e he hb => ?_⟩
      · rcases h1 with h1 | ⟨⟨h1, h4⟩, h5⟩
        · exact .inl (masks_reach ops _ _ _ h1)
        · refine .inr ⟨h1, fun op' oq' e1 e2 => by obtain rfl := Option.some.inj (hp.symm.trans e1); obtain rfl := Option.some.inj (hq.symm.trans e2); exact h4, fun he => ?_⟩
          rcases h5 with h5 | h5
          · rw [he] at h5; cases h5
          · exact h5
      · obtain rfl := Option.some.inj (hp.symm.trans ho')
        rcases h2 e (by simpa using he) with h2 | h2
        · rw [hb] at h2; cases h2
        · exact h2

def Lev : List Item → Nat → Prop
  | [], _ => True
  | x :: L, n => (if x.eff = true then x.hi = n else n ≤ x.hi) ∧ Lev L (if x.eff = true then n + 1 else n)
theorem lev_of : ∀ (L : List Item) (n : Nat), levB L n = true → Lev L n
  | [], _, _ => trivial
  | x :: L, n, h => by
    simp only [levB, Bool.and_eq_true] at h
    obtain ⟨h1, h2⟩ := h
    refine ⟨?_, lev_of L _ h2⟩
    by_cases he : x.eff = true
    · simp only [he, if_true] at h1 ⊢; simpa using h1
    · simp only [he] at h1 ⊢; simpa using h1

theorem lev_pull {x : Item} : ∀ (pre post : List Item) (n : Nat), (∀ p ∈ pre, p.eff = false) → (∀ p ∈ pre, x.eff = true → x.hi + 1 ≤ p.hi) → Lev (pre ++ x :: post) n →
    (if x.eff = true then x.hi = n else n ≤ x.hi) ∧ Lev (pre ++ post) (if x.eff = true then n + 1 else n)
  | [], post, n, _, _, h => h
  | p :: pre, post, n, h1, h2, h => by
    have hp := h1 p List.mem_cons_self
    simp only [List.cons_append, Lev, hp, Bool.false_eq_true, if_false] at h ⊢
    obtain ⟨h3, h4⟩ := lev_pull pre post n (fun q hq => h1 q (List.mem_cons_of_mem _ hq)) (fun q hq => h2 q (List.mem_cons_of_mem _ hq)) h.2
    refine ⟨h3, ?_, h4⟩
    by_cases he : x.eff = true
    · simp only [he, if_true] at h3 ⊢; have := h2 p List.mem_cons_self he; omega
    · simp only [he]; exact h.1

theorem WpI.pull {Q : Act → World → Prop} {x : Item} {ox : Oper} (hx : ops[x.i]? = some ox) (hsx : ∀ cs b, ox.op ≠ .select cs b) : ∀ (pre post : List Item) (vs : List Value) (a : Act),
    (∀ p ∈ pre, p.eff = false ∧ ∃ op, ops[p.i]? = some op ∧ op.apart ops ox = true ∧ ∀ cs b, op.op ≠ .select cs b) → WpI P ops Inv Q (pre ++ x :: post) vs a → WpI P ops Inv Q (x :: (pre ++ post)) vs a
  | [], _, _, _, _, h => h
  | p :: pre, post, vs, a, hp, h => by
    obtain ⟨he, op, ho, hap, hs⟩ := hp p List.mem_cons_self
    refine WpI.swap ho hx he hap hs hsx ?_
    obtain ⟨o1, ho1, h⟩ := h
    refine ⟨o1, ho1, ?_⟩
    simp only [he, Bool.false_eq_true, if_false] at h ⊢
    obtain ⟨v, h1, h2⟩ := h
    exact ⟨v, h1, WpI.pull hx hsx pre post vs _ (fun q hq => hp q (List.mem_cons_of_mem _ hq)) h2⟩

theorem reach_listed {listed : Array Bool} (hcl : ∀ j oj, ops[j]? = some oj → listed.getD j false = true → ∀ e ∈ oj.after, Region.binds .any e = true → listed.getD e.on false = true) {i j : Nat} (h : Reach ops i j) :
    (listed.getD i false = true ∨ i ∈ Region.ready .any ops listed) → listed.getD j false = true := by
  induction h with
  | one ho he hb =>
    intro h
    rcases h with h | h
    · exact hcl _ _ ho h _ he hb
    · obtain ⟨_, o', ho', hall⟩ := mem_ready.1 h
      obtain rfl := Option.some.inj (ho.symm.trans ho')
      exact hall _ he hb
  | step ho he hb _ ih =>
    intro h
    refine ih (.inl ?_)
    rcases h with h | h
    · exact hcl _ _ ho h _ he hb
    · obtain ⟨_, o', ho', hall⟩ := mem_ready.1 h
      obtain rfl := Option.some.inj (ho.symm.trans ho')
      exact hall _ he hb

theorem getD_ff {listed : Array Bool} {i : Nat} (h : listed.getD i true = false) : listed.getD i false = false := by
  rcases Nat.lt_or_ge i listed.size with h' | h'
  · simp [h'] at h ⊢; exact h
  · simp [Array.getElem?_eq_none h'] at h

theorem WpI.any {Q : Exit → Act → World → Prop} : ∀ (fuel : Nat) (L : List Item) (vs : List Value) (listed : Array Bool) (a : Act) (w : World), L.length = fuel → listed.size = ops.size →
    (∀ j, listed.getD j true = false ↔ j ∈ L.map Item.i) → L.Pairwise (Pair ops) → (∀ p ∈ L, itemB ops p = true) → Lev L vs.length →
    (∀ j oj, ops[j]? = some oj → listed.getD j false = true → ∀ e ∈ oj.after, Region.binds .any e = true → listed.getD e.on false = true) →
    WpI P ops Inv (fun a w => Q .normal a w) L vs a → Inv vs w → wpAny P .any ops Q fuel listed a w := by
  intro fuel
  induction fuel with
  | zero =>
    intro L vs listed a w hL _ hun _ _ _ _ h hI
    obtain rfl := List.eq_nil_of_length_eq_zero hL
    refine ⟨?_, h w hI⟩
    rw [List.eq_nil_iff_forall_not_mem]
    intro j hj
    have := (hun j).1 (mem_ready.1 hj).1
    simp at this
  | succ fuel ih =>
    intro L vs listed a w hL hsz hun hpw hit hlev hcl h hI
    have hall : ∀ p ∈ L, ∃ o, ops[p.i]? = some o ∧ (∀ cs b, o.op ≠ .select cs b) ∧ ∀ e ∈ o.after, Region.binds .any e = true → e.on < ops.size ∧ e.on ≠ p.i := by
      intro p hp
      have := hit p hp
      unfold itemB at this
      cases ho : ops[p.i]? with
      | none => simp [ho] at this
      | some o =>
        simp only [ho, Bool.and_eq_true, List.all_eq_true, Bool.or_eq_true, Bool.not_eq_true', bne_iff_ne, ne_eq, decide_eq_true_eq] at this
        refine ⟨o, rfl, noSelect_spec this.1, fun e he hb => ?_⟩
        rcases this.2 e (by simpa using he) with h1 | h1
        · rw [hb] at h1; cases h1
        · exact h1
    refine ⟨fun hnil => ?_, fun i hi => ?_⟩
    · cases L with
      | nil => simp at hL
      | cons x L =>
        exfalso
        obtain ⟨o, ho, _, he⟩ := hall x List.mem_cons_self
        have hxr : x.i ∈ Region.ready .any ops listed := by
          refine mem_ready.2 ⟨(hun x.i).2 (by simp), o, ho, fun e hee hb => ?_⟩
          obtain ⟨h1, h2⟩ := he e hee hb
          have hnot : e.on ∉ (x :: L).map Item.i := by
            intro hm
            simp only [List.map_cons, List.mem_cons, List.mem_map] at hm
            rcases hm with hm | ⟨q, hq, hm⟩
            · exact h2 hm
            · exact ((List.pairwise_cons.1 hpw).1 q hq).top o ho e hee hb hm.symm
          have h3 : listed.getD e.on true ≠ false := fun h => hnot ((hun _).1 h)
          have h4 : e.on < listed.size := by omega
          simp [h4] at h3 ⊢
          exact h3
        rw [hnil] at hxr
        cases hxr
    · have hiL := (hun i).1 (mem_ready.1 hi).1
      obtain ⟨x, hx, rfl⟩ := List.mem_map.1 hiL
      obtain ⟨pre, post, rfl⟩ := List.append_of_mem hx
      obtain ⟨ox, hox, hsx, _⟩ := hall x hx
      have hpre : ∀ p ∈ pre, Pair ops p x := fun p hp => (List.pairwise_append.1 hpw).2.2 p hp x List.mem_cons_self
      have hpre2 : ∀ p ∈ pre, p.eff = false ∧ (∃ op, ops[p.i]? = some op ∧ op.apart ops ox = true ∧ ∀ cs b, op.op ≠ .select cs b) ∧ (x.eff = true → x.hi + 1 ≤ p.hi) := by
        intro p hp
        obtain ⟨op, hop, hs, _⟩ := hall p (by simp [hp])
        rcases (hpre p hp).free with h1 | ⟨h1, h2, h3⟩
        · have h4 := reach_listed hcl h1 (.inr hi)
          have h5 : listed.getD p.i true = false := (hun _).2 (List.mem_map.2 ⟨p, by simp [hp], rfl⟩)
          rw [getD_ff h5] at h4
          cases h4
        · exact ⟨h1, ⟨op, hop, h2 _ _ hop hox, hs⟩, h3⟩
      have h1 := WpI.pull (P := P) (Inv := Inv) hox hsx pre post vs a (fun p hp => ⟨(hpre2 p hp).1, (hpre2 p hp).2.1⟩) h
      obtain ⟨hlx, hl2⟩ := lev_pull pre post vs.length (fun p hp => (hpre2 p hp).1) (fun p hp => (hpre2 p hp).2.2) hlev
      have hpw2 : (pre ++ post).Pairwise (Pair ops) := hpw.sublist (by simp)
      have hne : ∀ q ∈ pre ++ post, q.i ≠ x.i := by
        intro q hq
        rcases List.mem_append.1 hq with hq | hq
        · exact (hpre q hq).ne
        · exact ((List.pairwise_cons.1 (List.pairwise_append.1 hpw).2.1).1 q hq).ne.symm
      have hun2 : ∀ j, (listed.setIfInBounds x.i true).getD j true = false ↔ j ∈ (pre ++ post).map Item.i := by
        intro j
        by_cases hj : x.i = j
        · subst hj
          constructor
          · intro hh
            exfalso
            have hlt : x.i < listed.size := by rw [hsz]; exact (Array.getElem?_eq_some_iff.1 hox).1
            simp [hlt] at hh
          · intro hh
            obtain ⟨q, hq, e⟩ := List.mem_map.1 hh
            exact absurd e (hne q hq)
        · rw [getD_set_ne true hj, hun j]
          simp only [List.map_append, List.map_cons, List.mem_append, List.mem_cons]
          constructor
          · rintro (h | h | h)
            · exact .inl h
            · exact absurd h.symm hj
            · exact .inr h
          · rintro (h | h)
            · exact .inl h
            · exact .inr (.inr h)
      have hcl2 : ∀ j oj, ops[j]? = some oj → (listed.setIfInBounds x.i true).getD j false = true → ∀ e ∈ oj.after, Region.binds .any e = true → (listed.setIfInBounds x.i true).getD e.on false = true := by
        intro j oj hj hl e he hb
        by_cases hij : x.i = j
        · subst hij
          obtain ⟨_, o', ho', hall'⟩ := mem_ready.1 hi
          obtain rfl := Option.some.inj (hj.symm.trans ho')
          exact getD_set_true (hall' e he hb)
        · rw [getD_set_ne false hij] at hl
          exact getD_set_true (hcl j oj hj hl e he hb)
      have hlen : (pre ++ post).length = fuel := by simp at hL ⊢; omega
      have hit2 : ∀ p ∈ pre ++ post, itemB ops p = true := fun p hp => hit p (by rcases List.mem_append.1 hp with h | h <;> simp [h])
      obtain ⟨o', ho', h2⟩ := h1
      obtain rfl := Option.some.inj (hox.symm.trans ho')
      refine Runs.wpOp hox ?_
      by_cases he : x.eff = true
      · simp only [he, if_true] at h2 hl2
        exact (h2.1 w hI).mono fun v w' hI' => ih _ (vs ++ [v]) _ _ w' hlen (by simpa using hsz) hun2 hpw2 hit2 (by simpa using hl2) hcl2 (h2.2 v ⟨w', hI'⟩) hI'
      · simp only [he] at h2 hl2 hlx
        obtain ⟨v, h3, h4⟩ := h2
        have h5 := h3 [] (by simpa using hlx) w (by simpa using hI)
        refine h5.mono fun v' w' ⟨hI', hv⟩ => ?_
        obtain rfl : v' = v := hv
        exact ih _ vs _ _ w' hlen (by simpa using hsz) hun2 hpw2 hit2 hl2 hcl2 h4 (by simpa using hI')

theorem pairs_of (ms : Array Nat) (hms : ms = masks ops ops.size) : ∀ L, pairsB ops ms L = true → L.Pairwise (Pair ops)
  | [], _ => .nil
  | x :: L, h => by
    subst hms
    simp only [pairsB, Bool.and_eq_true, List.all_eq_true] at h
    exact .cons (fun q hq => pair_of (h.1 q hq)) (pairs_of _ rfl L h.2)

/-- A REGION THAT DRAWS ITS ORDER, walked in the list's order, under an invariant. -/
theorem wp_region_inv {id : Nat} {Q : Exit → Act → World → Prop} {a : Act} {w : World} (hm : P.follows .mixedOrders = true) (L : List Item) (hok : okB ops L = true) (Inv : List Value → World → Prop) (h0 : Inv [] w.drew)
    (h : WpI P ops Inv (fun a w => Q .normal a w) L [] a) : (Code.region id ops true).wp P Q a w := by
  refine wp_region_any hm ?_
  simp only [okB, Bool.and_eq_true, beq_iff_eq, List.all_eq_true] at hok
  obtain ⟨⟨⟨h1, h2⟩, h3⟩, h4⟩ := hok
  have hpw := pairs_of (ops := ops) _ rfl L h4
  have hlt : ∀ p ∈ L, p.i < ops.size := by
    intro p hp
    have := h2 p hp
    unfold itemB at this
    cases ho : ops[p.i]? with
    | none => simp [ho] at this
    | some o => exact (Array.getElem?_eq_some_iff.1 ho).1
  have hnd : (L.map Item.i).Nodup := by
    rw [List.Nodup, List.pairwise_map]
    exact hpw.imp (fun h => h.ne)
  have hperm : ∀ j, j < ops.size → j ∈ L.map Item.i := by
    intro j hj
    apply Classical.byContradiction
    intro hn
    have hsub : ∀ x ∈ (j :: L.map Item.i), x ∈ List.range ops.size := by
      intro x hx
      rcases List.mem_cons.1 hx with rfl | hx
      · exact List.mem_range.2 hj
      · obtain ⟨p, hp, rfl⟩ := List.mem_map.1 hx; exact List.mem_range.2 (hlt p hp)
    have := (List.nodup_cons.2 ⟨hn, hnd⟩).length_le_of_subset hsub
    simp at this
    omega
  refine WpI.any ops.size L [] _ a _ h1 (by simp) (fun j => ?_) hpw h2 (lev_of L 0 h3) (fun j oj _ hl => ?_) h h0
  · rcases Nat.lt_or_ge j ops.size with hj | hj
    · simp [hj, hperm j hj]
    · constructor
      · intro hh; simp [hj] at hh
      · intro hh
        obtain ⟨p, hp, rfl⟩ := List.mem_map.1 hh
        have := hlt p hp
        omega
  · rcases Nat.lt_or_ge j ops.size with h | h
    · simp [h] at hl
    · simp [h] at hl
end
#print axioms wp_region_inv
end Go.Proofs.Ytjdobjcbmmdjeaa
