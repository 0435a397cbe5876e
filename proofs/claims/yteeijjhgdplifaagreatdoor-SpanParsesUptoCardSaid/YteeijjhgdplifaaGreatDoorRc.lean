/- CHAINS OF EFFECTS in a region that draws its order: which have been done, and what holds then. No program in sight. -/
import Derived.Test.YteeijjhgdplifaaGreatDoorRl
namespace Go.Proofs.YteeijjhgdplifaaGreatDoor
open Go Go.RowKit

/-- effects a, one behind the other -/
def Chain1 (a : Nat) (S0 : World → Prop) (S1 : Value → World → Prop) : Done → World → Prop := fun τ w => match τ a with
  | none => S0 w
  | some x => S1 x w
section
variable {a : Nat} {S0 : World → Prop} {S1 : Value → World → Prop} {τ : Done} {w : World}
theorem Chain1.at0 (h : Chain1 a S0 S1 τ w) (ha : τ a = none) : S0 w := by
  simpa only [Chain1, ha] using h
theorem Chain1.at1 {x : Value} (h : Chain1 a S0 S1 τ w) (ha : τ a = some x) : S1 x w := by
  simpa only [Chain1, ha] using h
theorem Chain1.put1 {x : Value} (h : S1 x w) : Chain1 a S0 S1 (τ.put a x) w := by
  simpa only [Chain1, Done.put_same] using h
theorem Chain1.upto0 (h : Chain1 a S0 S1 τ w) (ha : τ a = none) : S0 w := by
  unfold Chain1 at h
  split at h <;> simp_all
theorem Chain1.end_ {x : Value}  (h : Chain1 a S0 S1 (Done.none.put a x) w) : S1 x w := by
  simpa only [Chain1, Done.put_same] using h
theorem Chain1.start (h : S0 w) : Chain1 a S0 S1 Done.none w := h
end

/-- effects a b, one behind the other -/
def Chain2 (a b : Nat) (S0 : World → Prop) (S1 : Value → World → Prop) (S2 : Value → Value → World → Prop) : Done → World → Prop := fun τ w => match τ a, τ b with
  | none, none => S0 w
  | some x, none => S1 x w
  | some x, some y => S2 x y w
  | _, _ => False
section
variable {a b : Nat} {S0 : World → Prop} {S1 : Value → World → Prop} {S2 : Value → Value → World → Prop} {τ : Done} {w : World}
theorem Chain2.at0 (h : Chain2 a b S0 S1 S2 τ w) (ha : τ a = none) (hb : τ b = none) : S0 w := by
  simpa only [Chain2, ha, hb] using h
theorem Chain2.at1 {x : Value} (h : Chain2 a b S0 S1 S2 τ w) (ha : τ a = some x) (hb : τ b = none) : S1 x w := by
  simpa only [Chain2, ha, hb] using h
theorem Chain2.at2 {x y : Value} (h : Chain2 a b S0 S1 S2 τ w) (ha : τ a = some x) (hb : τ b = some y) : S2 x y w := by
  simpa only [Chain2, ha, hb] using h
theorem Chain2.put1 {x : Value} (hb : τ b = none) (nb : b ≠ a) (h : S1 x w) : Chain2 a b S0 S1 S2 (τ.put a x) w := by
  simpa only [Chain2, Done.put_same, Done.put_other _ _ _ _ nb, hb] using h
theorem Chain2.put2 {x y : Value} (ha : τ a = some x) (na : a ≠ b) (h : S2 x y w) : Chain2 a b S0 S1 S2 (τ.put b y) w := by
  simpa only [Chain2, Done.put_same, Done.put_other _ _ _ _ na, ha] using h
theorem Chain2.upto0 (h : Chain2 a b S0 S1 S2 τ w) (ha : τ a = none) : S0 w := by
  unfold Chain2 at h
  split at h <;> simp_all
theorem Chain2.upto1 (h : Chain2 a b S0 S1 S2 τ w) (hb : τ b = none) : S0 w ∨ (∃ x, S1 x w) := by
  unfold Chain2 at h
  split at h <;> simp_all
  all_goals first | exact .inl h | exact .inr ⟨_, h⟩ | exact .inr (.inl ⟨_, h⟩) | exact .inr (.inr ⟨_, _, h⟩) | exact .inr (.inr (.inl ⟨_, _, h⟩)) | exact .inr (.inr (.inr ⟨_, _, _, h⟩))
theorem Chain2.end_ {x y : Value} (nab : a ≠ b) (h : Chain2 a b S0 S1 S2 ((Done.none.put a x).put b y) w) : S2 x y w := by
  simpa only [Chain2, Done.put_same, Done.put_other _ _ _ _ nab] using h
theorem Chain2.start (h : S0 w) : Chain2 a b S0 S1 S2 Done.none w := h
end

/-- effects a b c, one behind the other -/
def Chain3 (a b c : Nat) (S0 : World → Prop) (S1 : Value → World → Prop) (S2 : Value → Value → World → Prop) (S3 : Value → Value → Value → World → Prop) : Done → World → Prop := fun τ w => match τ a, τ b, τ c with
  | none, none, none => S0 w
  | some x, none, none => S1 x w
  | some x, some y, none => S2 x y w
  | some x, some y, some z => S3 x y z w
  | _, _, _ => False
section
variable {a b c : Nat} {S0 : World → Prop} {S1 : Value → World → Prop} {S2 : Value → Value → World → Prop} {S3 : Value → Value → Value → World → Prop} {τ : Done} {w : World}
theorem Chain3.at0 (h : Chain3 a b c S0 S1 S2 S3 τ w) (ha : τ a = none) (hb : τ b = none) (hc : τ c = none) : S0 w := by
  simpa only [Chain3, ha, hb, hc] using h
theorem Chain3.at1 {x : Value} (h : Chain3 a b c S0 S1 S2 S3 τ w) (ha : τ a = some x) (hb : τ b = none) (hc : τ c = none) : S1 x w := by
  simpa only [Chain3, ha, hb, hc] using h
theorem Chain3.at2 {x y : Value} (h : Chain3 a b c S0 S1 S2 S3 τ w) (ha : τ a = some x) (hb : τ b = some y) (hc : τ c = none) : S2 x y w := by
  simpa only [Chain3, ha, hb, hc] using h
theorem Chain3.at3 {x y z : Value} (h : Chain3 a b c S0 S1 S2 S3 τ w) (ha : τ a = some x) (hb : τ b = some y) (hc : τ c = some z) : S3 x y z w := by
  simpa only [Chain3, ha, hb, hc] using h
theorem Chain3.put1 {x : Value} (hb : τ b = none) (nb : b ≠ a) (hc : τ c = none) (nc : c ≠ a) (h : S1 x w) : Chain3 a b c S0 S1 S2 S3 (τ.put a x) w := by
  simpa only [Chain3, Done.put_same, Done.put_other _ _ _ _ nb, hb, Done.put_other _ _ _ _ nc, hc] using h
theorem Chain3.put2 {x y : Value} (ha : τ a = some x) (na : a ≠ b) (hc : τ c = none) (nc : c ≠ b) (h : S2 x y w) : Chain3 a b c S0 S1 S2 S3 (τ.put b y) w := by
  simpa only [Chain3, Done.put_same, Done.put_other _ _ _ _ na, ha, Done.put_other _ _ _ _ nc, hc] using h
theorem Chain3.put3 {x y z : Value} (ha : τ a = some x) (na : a ≠ c) (hb : τ b = some y) (nb : b ≠ c) (h : S3 x y z w) : Chain3 a b c S0 S1 S2 S3 (τ.put c z) w := by
  simpa only [Chain3, Done.put_same, Done.put_other _ _ _ _ na, ha, Done.put_other _ _ _ _ nb, hb] using h
theorem Chain3.upto0 (h : Chain3 a b c S0 S1 S2 S3 τ w) (ha : τ a = none) : S0 w := by
  unfold Chain3 at h
  split at h <;> simp_all
theorem Chain3.upto1 (h : Chain3 a b c S0 S1 S2 S3 τ w) (hb : τ b = none) : S0 w ∨ (∃ x, S1 x w) := by
  unfold Chain3 at h
  split at h <;> simp_all
  all_goals first | exact .inl h | exact .inr ⟨_, h⟩ | exact .inr (.inl ⟨_, h⟩) | exact .inr (.inr ⟨_, _, h⟩) | exact .inr (.inr (.inl ⟨_, _, h⟩)) | exact .inr (.inr (.inr ⟨_, _, _, h⟩))
theorem Chain3.upto2 (h : Chain3 a b c S0 S1 S2 S3 τ w) (hc : τ c = none) : S0 w ∨ (∃ x, S1 x w) ∨ (∃ x y, S2 x y w) := by
  unfold Chain3 at h
  split at h <;> simp_all
  all_goals first | exact .inl h | exact .inr ⟨_, h⟩ | exact .inr (.inl ⟨_, h⟩) | exact .inr (.inr ⟨_, _, h⟩) | exact .inr (.inr (.inl ⟨_, _, h⟩)) | exact .inr (.inr (.inr ⟨_, _, _, h⟩))
theorem Chain3.end_ {x y z : Value} (nab : a ≠ b) (nac : a ≠ c) (nbc : b ≠ c) (h : Chain3 a b c S0 S1 S2 S3 (((Done.none.put a x).put b y).put c z) w) : S3 x y z w := by
  simpa only [Chain3, Done.put_same, Done.put_other _ _ _ _ nab, Done.put_other _ _ _ _ nac, Done.put_other _ _ _ _ nbc] using h
theorem Chain3.start (h : S0 w) : Chain3 a b c S0 S1 S2 S3 Done.none w := h
end

/-- effects a b c d, one behind the other -/
def Chain4 (a b c d : Nat) (S0 : World → Prop) (S1 : Value → World → Prop) (S2 : Value → Value → World → Prop) (S3 : Value → Value → Value → World → Prop) (S4 : Value → Value → Value → Value → World → Prop) : Done → World → Prop := fun τ w => match τ a, τ b, τ c, τ d with
  | none, none, none, none => S0 w
  | some x, none, none, none => S1 x w
  | some x, some y, none, none => S2 x y w
  | some x, some y, some z, none => S3 x y z w
  | some x, some y, some z, some u => S4 x y z u w
  | _, _, _, _ => False
section
variable {a b c d : Nat} {S0 : World → Prop} {S1 : Value → World → Prop} {S2 : Value → Value → World → Prop} {S3 : Value → Value → Value → World → Prop} {S4 : Value → Value → Value → Value → World → Prop} {τ : Done} {w : World}
theorem Chain4.at0 (h : Chain4 a b c d S0 S1 S2 S3 S4 τ w) (ha : τ a = none) (hb : τ b = none) (hc : τ c = none) (hd : τ d = none) : S0 w := by
  simpa only [Chain4, ha, hb, hc, hd] using h
theorem Chain4.at1 {x : Value} (h : Chain4 a b c d S0 S1 S2 S3 S4 τ w) (ha : τ a = some x) (hb : τ b = none) (hc : τ c = none) (hd : τ d = none) : S1 x w := by
  simpa only [Chain4, ha, hb, hc, hd] using h
theorem Chain4.at2 {x y : Value} (h : Chain4 a b c d S0 S1 S2 S3 S4 τ w) (ha : τ a = some x) (hb : τ b = some y) (hc : τ c = none) (hd : τ d = none) : S2 x y w := by
  simpa only [Chain4, ha, hb, hc, hd] using h
theorem Chain4.at3 {x y z : Value} (h : Chain4 a b c d S0 S1 S2 S3 S4 τ w) (ha : τ a = some x) (hb : τ b = some y) (hc : τ c = some z) (hd : τ d = none) : S3 x y z w := by
  simpa only [Chain4, ha, hb, hc, hd] using h
theorem Chain4.at4 {x y z u : Value} (h : Chain4 a b c d S0 S1 S2 S3 S4 τ w) (ha : τ a = some x) (hb : τ b = some y) (hc : τ c = some z) (hd : τ d = some u) : S4 x y z u w := by
  simpa only [Chain4, ha, hb, hc, hd] using h
theorem Chain4.put1 {x : Value} (hb : τ b = none) (nb : b ≠ a) (hc : τ c = none) (nc : c ≠ a) (hd : τ d = none) (nd : d ≠ a) (h : S1 x w) : Chain4 a b c d S0 S1 S2 S3 S4 (τ.put a x) w := by
  simpa only [Chain4, Done.put_same, Done.put_other _ _ _ _ nb, hb, Done.put_other _ _ _ _ nc, hc, Done.put_other _ _ _ _ nd, hd] using h
theorem Chain4.put2 {x y : Value} (ha : τ a = some x) (na : a ≠ b) (hc : τ c = none) (nc : c ≠ b) (hd : τ d = none) (nd : d ≠ b) (h : S2 x y w) : Chain4 a b c d S0 S1 S2 S3 S4 (τ.put b y) w := by
  simpa only [Chain4, Done.put_same, Done.put_other _ _ _ _ na, ha, Done.put_other _ _ _ _ nc, hc, Done.put_other _ _ _ _ nd, hd] using h
theorem Chain4.put3 {x y z : Value} (ha : τ a = some x) (na : a ≠ c) (hb : τ b = some y) (nb : b ≠ c) (hd : τ d = none) (nd : d ≠ c) (h : S3 x y z w) : Chain4 a b c d S0 S1 S2 S3 S4 (τ.put c z) w := by
  simpa only [Chain4, Done.put_same, Done.put_other _ _ _ _ na, ha, Done.put_other _ _ _ _ nb, hb, Done.put_other _ _ _ _ nd, hd] using h
theorem Chain4.put4 {x y z u : Value} (ha : τ a = some x) (na : a ≠ d) (hb : τ b = some y) (nb : b ≠ d) (hc : τ c = some z) (nc : c ≠ d) (h : S4 x y z u w) : Chain4 a b c d S0 S1 S2 S3 S4 (τ.put d u) w := by
  simpa only [Chain4, Done.put_same, Done.put_other _ _ _ _ na, ha, Done.put_other _ _ _ _ nb, hb, Done.put_other _ _ _ _ nc, hc] using h
theorem Chain4.upto0 (h : Chain4 a b c d S0 S1 S2 S3 S4 τ w) (ha : τ a = none) : S0 w := by
  unfold Chain4 at h
  split at h <;> simp_all
theorem Chain4.upto1 (h : Chain4 a b c d S0 S1 S2 S3 S4 τ w) (hb : τ b = none) : S0 w ∨ (∃ x, S1 x w) := by
  unfold Chain4 at h
  split at h <;> simp_all
  all_goals first | exact .inl h | exact .inr ⟨_, h⟩ | exact .inr (.inl ⟨_, h⟩) | exact .inr (.inr ⟨_, _, h⟩) | exact .inr (.inr (.inl ⟨_, _, h⟩)) | exact .inr (.inr (.inr ⟨_, _, _, h⟩))
theorem Chain4.upto2 (h : Chain4 a b c d S0 S1 S2 S3 S4 τ w) (hc : τ c = none) : S0 w ∨ (∃ x, S1 x w) ∨ (∃ x y, S2 x y w) := by
  unfold Chain4 at h
  split at h <;> simp_all
  all_goals first | exact .inl h | exact .inr ⟨_, h⟩ | exact .inr (.inl ⟨_, h⟩) | exact .inr (.inr ⟨_, _, h⟩) | exact .inr (.inr (.inl ⟨_, _, h⟩)) | exact .inr (.inr (.inr ⟨_, _, _, h⟩))
theorem Chain4.upto3 (h : Chain4 a b c d S0 S1 S2 S3 S4 τ w) (hd : τ d = none) : S0 w ∨ (∃ x, S1 x w) ∨ (∃ x y, S2 x y w) ∨ (∃ x y z, S3 x y z w) := by
  unfold Chain4 at h
  split at h <;> simp_all
  all_goals first | exact .inl h | exact .inr ⟨_, h⟩ | exact .inr (.inl ⟨_, h⟩) | exact .inr (.inr ⟨_, _, h⟩) | exact .inr (.inr (.inl ⟨_, _, h⟩)) | exact .inr (.inr (.inr ⟨_, _, _, h⟩))
theorem Chain4.end_ {x y z u : Value} (nab : a ≠ b) (nac : a ≠ c) (nbc : b ≠ c) (nad : a ≠ d) (nbd : b ≠ d) (ncd : c ≠ d) (h : Chain4 a b c d S0 S1 S2 S3 S4 ((((Done.none.put a x).put b y).put c z).put d u) w) : S4 x y z u w := by
  simpa only [Chain4, Done.put_same, Done.put_other _ _ _ _ nab, Done.put_other _ _ _ _ nac, Done.put_other _ _ _ _ nbc, Done.put_other _ _ _ _ nad, Done.put_other _ _ _ _ nbd, Done.put_other _ _ _ _ ncd] using h
theorem Chain4.start (h : S0 w) : Chain4 a b c d S0 S1 S2 S3 S4 Done.none w := h
end

end Go.Proofs.YteeijjhgdplifaaGreatDoor
