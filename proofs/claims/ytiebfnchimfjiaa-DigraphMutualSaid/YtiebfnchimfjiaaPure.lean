/- Plain facts on small graphs: no program in sight. -/
namespace Go.Proofs.Ytiebfnchimfjiaa
namespace G

def row (g : List (List Int)) (a : Nat) : List Int := g.getD a []
/-- Is there an edge? -/
def ed (g : List (List Int)) (a b : Nat) : Bool := decide ((b : Int) ∈ row g a)

/-- Paths of length 1 or more whose inner nodes are below k. -/
def Pk (g : List (List Int)) : Nat → Nat → Nat → Prop
  | 0, a, b => ed g a b = true
  | k + 1, a, b => Pk g k a b ∨ (Pk g k a k ∧ Pk g k k b)

theorem Pk_succ {g : List (List Int)} {k a b : Nat} (h : Pk g k a b) : Pk g (k + 1) a b := .inl h
theorem Pk_mono {g : List (List Int)} {k k' a b : Nat} (h : Pk g k a b) (hk : k ≤ k') : Pk g k' a b := by
  induction hk with
  | refl => exact h
  | step _ ih => exact .inl ih
theorem Pk_to {g : List (List Int)} {k a : Nat} (h : Pk g (k + 1) a k) : Pk g k a k := h.elim id (·.1)
theorem Pk_from {g : List (List Int)} {k b : Nat} (h : Pk g (k + 1) k b) : Pk g k k b := h.elim id (·.2)
theorem Pk_trans {g : List (List Int)} : ∀ {k a c b : Nat}, c < k → Pk g k a c → Pk g k c b → Pk g k a b := by
  intro k
  induction k with
  | zero => intro a c b h; exact absurd h (by omega)
  | succ k ih =>
    intro a c b hc h1 h2
    rcases Nat.lt_or_ge c k with hlt | hge
    · rcases h1 with h1 | ⟨h1, h1'⟩
      · rcases h2 with h2 | ⟨h2, h2'⟩
        · exact .inl (ih hlt h1 h2)
        · exact .inr ⟨ih hlt h1 h2, h2'⟩
      · rcases h2 with h2 | ⟨h2, h2'⟩
        · exact .inr ⟨h1, ih hlt h1' h2⟩
        · exact .inr ⟨h1, h2'⟩
    · obtain rfl : c = k := by omega
      exact .inr ⟨Pk_to h1, Pk_from h2⟩

/-- What holds while the matrix is worked on: k rounds are done, of round k all places before (a, b). -/
structure War (g : List (List Int)) (k a b : Nat) (m : Nat → Nat → Bool) : Prop where
  sound : ∀ x y, x < g.length → y < g.length → m x y = true → Pk g g.length x y
  done : ∀ x y, x < g.length → y < g.length → Pk g k x y → m x y = true
  now : ∀ x y, x < g.length → y < g.length → (x < a ∨ x = a ∧ y < b) → Pk g (k + 1) x y → m x y = true

variable {g : List (List Int)} {k a b : Nat} {m : Nat → Nat → Bool}
theorem War.start (h : ∀ x y, x < g.length → y < g.length → m x y = ed g x y) : War g 0 0 0 m :=
  ⟨fun x y hx hy hm => Pk_mono (k := 0) (by rw [h x y hx hy] at hm; exact hm) (Nat.zero_le _), fun x y hx hy hp => by rw [h x y hx hy]; exact hp, fun x y _ _ h => absurd h (by omega)⟩
theorem War.row (h : War g k a g.length m) : War g k (a + 1) 0 m :=
  ⟨h.sound, h.done, fun x y hx hy hc => h.now x y hx hy (by omega)⟩
theorem War.round (h : War g k g.length 0 m) : War g (k + 1) 0 0 m :=
  ⟨h.sound, fun x y hx hy => h.now x y hx hy (by omega), fun x y _ _ h => absurd h (by omega)⟩
theorem War.step (h : War g k a b m) (hk : k < g.length) (ha : a < g.length) (hb : b < g.length) {m' : Nat → Nat → Bool}
    (he : ∀ x y, m' x y = if x = a ∧ y = b then (m a b || (m a k && m k b)) else m x y) : War g k a (b + 1) m' := by
  have up : ∀ x y, m x y = true → m' x y = true := by
    intro x y hm; rw [he]; split
    · rename_i e; obtain ⟨rfl, rfl⟩ := e; simp [hm]
    · exact hm
  refine ⟨fun x y hx hy hm => ?_, fun x y hx hy hp => up x y (h.done x y hx hy hp), fun x y hx hy hc hp => ?_⟩
  · rw [he] at hm
    split at hm
    · rename_i e; obtain ⟨rfl, rfl⟩ := e
      simp only [Bool.or_eq_true, Bool.and_eq_true] at hm
      rcases hm with hm | ⟨h1, h2⟩
      · exact h.sound x y hx hy hm
      · exact Pk_trans hk (h.sound x k hx hk h1) (h.sound k y hk hy h2)
    · exact h.sound x y hx hy hm
  · by_cases e : x = a ∧ y = b
    · obtain ⟨rfl, rfl⟩ := e
      rw [he, if_pos ⟨rfl, rfl⟩]
      rcases hp with hp | ⟨h1, h2⟩
      · simp [h.done x y hx hy hp]
      · simp [h.done x k hx hk h1, h.done k y hk hy h2]
    · exact up x y (h.now x y hx hy (by omega) hp)
theorem War.fin (h : War g g.length 0 0 m) (x y : Nat) (hx : x < g.length) (hy : y < g.length) : m x y = true ↔ Pk g g.length x y :=
  ⟨h.sound x y hx hy, h.done x y hx hy⟩
end G
end Go.Proofs.Ytiebfnchimfjiaa
