/- Plain facts on a search in depth. -/
import Derived.Test.YtiebfnchimfjiaaPure
namespace Go.Proofs.Ytiebfnchimfjiaa
namespace G

/-- How many of the first n nodes are not marked. -/
def cnt (o : Nat → Bool) : Nat → Nat
  | 0 => 0
  | k + 1 => cnt o k + if o k then 0 else 1
theorem cnt_mono {o o' : Nat → Bool} {n : Nat} (h : ∀ x, x < n → o x = true → o' x = true) : cnt o' n ≤ cnt o n := by
  induction n with
  | zero => exact Nat.le_refl _
  | succ k ih =>
    have := ih fun x hx => h x (by omega)
    simp only [cnt]
    have h2 := h k (by omega)
    cases h3 : o k <;> cases h4 : o' k <;> simp_all <;> omega
theorem cnt_lt {o o' : Nat → Bool} {n : Nat} (h : ∀ x, x < n → o x = true → o' x = true) {v : Nat} (hv : v < n) (h1 : o v = false) (h2 : o' v = true) : cnt o' n < cnt o n := by
  induction n with
  | zero => omega
  | succ k ih =>
    simp only [cnt]
    by_cases e : v = k
    · subst e
      have := cnt_mono fun x (hx : x < v) => h x (by omega)
      simp [h1, h2]; omega
    · have := ih (fun x hx => h x (by omega)) (by omega)
      have h3 := h k (by omega)
      cases h4 : o k <;> cases h5 : o' k <;> simp_all <;> omega

/-- b is a or can be reached from it. -/
def Rs (g : List (List Int)) (a b : Nat) : Prop := a = b ∨ Pk g g.length a b
theorem Rs.trans {g : List (List Int)} {a b c : Nat} (hb : b < g.length) (h : Rs g a b) (h' : Rs g b c) : Rs g a c := by
  rcases h with rfl | h
  · exact h'
  · rcases h' with rfl | h'
    · exact .inr h
    · exact .inr (Pk_trans hb h h')
theorem Rs.edge {g : List (List Int)} {a b : Nat} (h : ed g a b = true) : Rs g a b := .inr (Pk_mono (k := 0) h (Nat.zero_le _))

/-- What a visit of v does to the marks. -/
structure Vis (g : List (List Int)) (v : Int) (o o' : Nat → Bool) : Prop where
  mono : ∀ x, x < g.length → o x = true → o' x = true
  here : ∀ x : Nat, v = x → x < g.length → o' x = true
  new : ∀ x, x < g.length → o' x = true → o x = true ∨ ∃ a : Nat, v = a ∧ a < g.length ∧ Rs g a x
  closed : ∀ x, x < g.length → o' x = true → o x = false → ∀ y, y < g.length → ed g x y = true → o' y = true

/-- In the loop over the successors of v: l is what has been visited. -/
structure Mid (g : List (List Int)) (v : Nat) (l : List Int) (o o' : Nat → Bool) : Prop where
  mono : ∀ x, x < g.length → o x = true → o' x = true
  here : o' v = true
  new : ∀ x, x < g.length → o' x = true → o x = true ∨ Rs g v x
  closed : ∀ x, x < g.length → o' x = true → o x = false → x ≠ v → ∀ y, y < g.length → ed g x y = true → o' y = true
  seen : ∀ y : Nat, y < g.length → (y : Int) ∈ l → o' y = true

variable {g : List (List Int)} {v : Nat} {o o1 o' o'' : Nat → Bool}
theorem Vis.out {a : Int} (h : ∀ x : Nat, a = x → ¬ x < g.length) : Vis g a o o :=
  ⟨fun _ _ h => h, fun x e hx => absurd hx (h x e), fun _ _ h => .inl h, fun x _ h1 h2 => by rw [h1] at h2; cases h2⟩
theorem Vis.was (h : o v = true) : Vis g v o o :=
  ⟨fun _ _ h => h, fun x e _ => by obtain rfl : v = x := by omega
                                   exact h, fun _ _ h => .inl h, fun x _ h1 h2 => by rw [h1] at h2; cases h2⟩
theorem Mid.start (_hv : v < g.length) (_h : o v = false) (h1 : ∀ x, o1 x = (if x = v then true else o x)) : Mid g v [] o o1 := by
  refine ⟨fun x _ h => ?_, ?_, fun x _ h => ?_, fun x _ h3 h2 hne => ?_, fun y _ hm => by simp at hm⟩
  · rw [h1]; split <;> simp_all
  · rw [h1]; simp
  · rw [h1] at h; by_cases e : x = v
    · subst e; exact .inr (.inl rfl)
    · simp [e] at h; exact .inl h
  · rw [h1] at h3; simp [hne] at h3; rw [h3] at h2; cases h2
theorem Mid.step {l : List Int} {a : Int} (h : Mid g v l o o') (ha : a ∈ row g v) (h' : Vis g a o' o'') : Mid g v (l ++ [a]) o o'' := by
  refine ⟨fun x hx hm => h'.mono x hx (h.mono x hx hm), ?_, fun x hx hm => ?_, fun x hx h3 h2 hne y hy he => ?_, fun y hy hm => ?_⟩
  · by_cases hv : v < g.length
    · exact h'.mono v hv h.here
    · have : row g v = [] := by unfold row; rw [List.getD_eq_getElem?_getD, List.getElem?_eq_none (by omega)]; rfl
      rw [this] at ha; cases ha
  · rcases h'.new x hx hm with hm' | ⟨b, e, hb, hr⟩
    · exact h.new x hx hm'
    · right
      have hed : ed g v b = true := by unfold ed; rw [← e]; simpa using ha
      exact Rs.trans hb (Rs.edge hed) hr
  · by_cases e : o' x = true
    · exact h'.mono y hy (h.closed x hx e h2 hne y hy he)
    · exact h'.closed x hx h3 (by simpa using e) y hy he
  · rcases List.mem_append.1 hm with hm | hm
    · exact h'.mono y hy (h.seen y hy hm)
    · simp at hm; exact h'.here y hm.symm hy
theorem Mid.fin (h : Mid g v (row g v) o o') (hv : v < g.length) : Vis g v o o' := by
  refine ⟨h.mono, fun x e _ => ?_, fun x hx hm => ?_, fun x hx h3 h2 y hy he => ?_⟩
  · obtain rfl : v = x := by omega
    exact h.here
  · rcases h.new x hx hm with h1 | h1
    · exact .inl h1
    · exact .inr ⟨v, rfl, hv, h1⟩
  · by_cases e : x = v
    · subst e
      exact h.seen y hy (by unfold ed at he; simpa using he)
    · exact h.closed x hx h3 h2 e y hy he

/-- While the given nodes are visited, one behind the other. -/
structure All (g : List (List Int)) (l : List Int) (o : Nat → Bool) : Prop where
  sound : ∀ x, x < g.length → o x = true → ∃ a : Nat, (a : Int) ∈ l ∧ a < g.length ∧ Rs g a x
  closed : ∀ x, x < g.length → o x = true → ∀ y, y < g.length → ed g x y = true → o y = true
  here : ∀ a : Nat, (a : Int) ∈ l → a < g.length → o a = true
theorem All.start (h : ∀ x, o x = false) : All g [] o :=
  ⟨fun x _ hx => (by rw [h] at hx; cases hx), fun x _ hx => (by rw [h] at hx; cases hx), fun a ha => (by cases ha)⟩
theorem All.step {l : List Int} {a : Int} (h : All g l o) (h' : Vis g a o o') : All g (l ++ [a]) o' := by
  refine ⟨fun x hx hm => ?_, fun x hx hm y hy he => ?_, fun b hb hl => ?_⟩
  · rcases h'.new x hx hm with h1 | ⟨b, e, hb, hr⟩
    · obtain ⟨b, hb, h2, h3⟩ := h.sound x hx h1
      exact ⟨b, List.mem_append.2 (.inl hb), h2, h3⟩
    · exact ⟨b, by simp [e], hb, hr⟩
  · by_cases e : o x = true
    · exact h'.mono y hy (h.closed x hx e y hy he)
    · exact h'.closed x hx hm (by simpa using e) y hy he
  · rcases List.mem_append.1 hb with hb | hb
    · exact h'.mono b hl (h.here b hb hl)
    · simp at hb; exact h'.here b hb.symm hl
theorem closed_Pk (hc : ∀ x, x < g.length → o x = true → ∀ y, y < g.length → ed g x y = true → o y = true) :
    ∀ {k a b : Nat}, k ≤ g.length → a < g.length → b < g.length → Pk g k a b → o a = true → o b = true := by
  intro k
  induction k with
  | zero => intro a b _ ha hb h ho; exact hc a ha ho b hb h
  | succ k ih =>
    intro a b hk ha hb h ho
    rcases h with h | ⟨h1, h2⟩
    · exact ih (by omega) ha hb h ho
    · exact ih (by omega) (by omega) hb h2 (ih (by omega) ha (by omega) h1 ho)
/-- What can be reached from the given nodes. -/
def Rch (g : List (List Int)) (l : List Int) (b : Nat) : Prop := ∃ a : Nat, (a : Int) ∈ l ∧ a < g.length ∧ Rs g a b
theorem All.fin {l : List Int} (h : All g l o) (b : Nat) (hb : b < g.length) : o b = true ↔ Rch g l b := by
  refine ⟨h.sound b hb, fun ⟨a, ha, hl, hr⟩ => ?_⟩
  rcases hr with rfl | hr
  · exact h.here a ha hl
  · exact closed_Pk h.closed (Nat.le_refl _) hl hb hr (h.here a ha hl)
end G
end Go.Proofs.Ytiebfnchimfjiaa
