/- Plain facts on orders. -/
import Derived.Test.YtiebfnchimfjiaaCompP
namespace Go.Proofs.Ytiebfnchimfjiaa
namespace G
def ints (l : List Nat) : List Int := l.map fun a : Nat => (a : Int)
theorem mem_ints {l : List Nat} {a : Nat} : (a : Int) ∈ ints l ↔ a ∈ l := by
  unfold ints
  rw [List.mem_map]
  exact ⟨fun ⟨b, h, e⟩ => by obtain rfl : b = a := by omega
                             exact h, fun h => ⟨a, h, rfl⟩⟩
/-- All predecessors of b are in the list. -/
def freeP (g : List (List Int)) (out : List Nat) (b : Nat) : Bool := (List.range g.length).all fun a => !(ed g a b) || decide (a ∈ out)
theorem freeP_iff {g : List (List Int)} {out : List Nat} {b : Nat} : freeP g out b = true ↔ ∀ a, a < g.length → ed g a b = true → a ∈ out := by
  unfold freeP
  rw [List.all_eq_true]
  constructor
  · intro h a ha he
    have := h a (List.mem_range.2 ha)
    simpa [he] using this
  · intro h a ha
    have := h a (List.mem_range.1 ha)
    cases e : ed g a b with
    | false => rfl
    | true => simp [this e]
def okP (g : List (List Int)) (out : List Nat) (b : Nat) : Bool := !(decide (b ∈ out)) && freeP g out b
def nxt (g : List (List Int)) (out : List Nat) : Option Nat := (List.range g.length).find? (okP g out)
def topoF (g : List (List Int)) : Nat → List Nat → Option (List Nat)
  | 0, out => some out
  | k + 1, out => match nxt g out with
    | none => none
    | some b => topoF g k (out ++ [b])
/-- The least order, if there is one. -/
def topo (g : List (List Int)) : Option (List Nat) := topoF g g.length []
theorem find_first {p : Nat → Bool} : ∀ {n b : Nat}, b < n → p b = true → (∀ a, a < b → p a = false) → (List.range n).find? p = some b := by
  intro n
  induction n with
  | zero => intro b h; omega
  | succ n ih =>
    intro b hb h1 h2
    rw [List.range_succ, List.find?_append]
    by_cases e : b = n
    · subst e
      have : (List.range b).find? p = none := by
        rw [List.find?_eq_none]; intro a ha; rw [h2 a (List.mem_range.1 ha)]; simp
      rw [this]; simp [h1]
    · rw [ih (by omega) h1 h2]; rfl
theorem find_none {p : Nat → Bool} {n : Nat} (h : ∀ a, a < n → p a = false) : (List.range n).find? p = none := by
  rw [List.find?_eq_none]; intro a ha; rw [h a (List.mem_range.1 ha)]; simp

/-- How many a below n. -/
def cn (p : Nat → Bool) : Nat → Nat
  | 0 => 0
  | k + 1 => cn p k + if p k then 1 else 0
theorem cn_le (p : Nat → Bool) (n : Nat) : cn p n ≤ n := by
  induction n with
  | zero => exact Nat.le_refl _
  | succ k ih => simp only [cn]; split <;> omega
theorem cn_congr {p q : Nat → Bool} {n : Nat} (h : ∀ a, a < n → p a = q a) : cn p n = cn q n := by
  induction n with
  | zero => rfl
  | succ k ih => simp only [cn]; rw [ih fun a ha => h a (by omega), h k (by omega)]
theorem cn_zero {p : Nat → Bool} {n : Nat} : cn p n = 0 ↔ ∀ a, a < n → p a = false := by
  induction n with
  | zero => exact ⟨fun _ a ha => absurd ha (by omega), fun _ => rfl⟩
  | succ k ih =>
    simp only [cn]
    constructor
    · intro h a ha
      have h1 : cn p k = 0 := by omega
      by_cases e : a = k
      · subst e; cases e : p a with
        | false => rfl
        | true => simp [e] at h
      · exact ih.1 h1 a (by omega)
    · intro h
      rw [ih.2 fun a ha => h a (by omega), h k (by omega)]; rfl
theorem cn_strike {p : Nat → Bool} {n v : Nat} (hv : v < n) : cn (fun a => p a && !(decide (a = v))) n + (if p v then 1 else 0) = cn p n := by
  induction n with
  | zero => omega
  | succ k ih =>
    simp only [cn]
    by_cases e : v = k
    · subst e
      have : cn (fun a => p a && !(decide (a = v))) v = cn p v := cn_congr fun a ha => by simp [show a ≠ v by omega]
      rw [this]; simp
    · have h1 := ih (by omega)
      have h2 : decide (k = v) = false := by simp [Ne.symm e]
      simp only [h2, Bool.not_false, Bool.and_true]; omega
theorem preds_cn (g : List (List Int)) (b j : Nat) : (preds g b j).length = cn (fun a => ed g a b) j := by
  induction j with
  | zero => rfl
  | succ k ih =>
    cases e : ed g k b with
    | true => rw [preds_yes e]; simp [cn, ih, e]
    | false => rw [preds_no e]; simp [cn, ih, e]

/-- What left holds when out is the order so far. -/
def leftL (g : List (List Int)) (out : List Nat) (b : Nat) : Int := if b ∈ out then -1 else (cn (fun a => ed g a b && !(decide (a ∈ out))) g.length : Nat)
/-- .. while the successors of v are gone through: P says which. -/
def leftM (g : List (List Int)) (out : List Nat) (v : Nat) (P : Nat → Bool) (b : Nat) : Int :=
  if b ∈ out ++ [v] then -1 else (cn (fun a => ed g a b && !(decide (a ∈ out))) g.length : Nat) - (if P b then 1 else 0)
/-- The order so far. -/
structure Ord (g : List (List Int)) (out : List Nat) : Prop where
  lt : ∀ b ∈ out, b < g.length
  pre : ∀ b ∈ out, ∀ a, a < g.length → ed g a b = true → a ∈ out
  len : out.length ≤ g.length
  eq : topoF g (g.length - out.length) out = topo g
variable {g : List (List Int)} {out : List Nat} {v : Nat}
theorem Ord.start (g : List (List Int)) : Ord g [] := ⟨fun _ h => by simp at h, fun _ h => by simp at h, Nat.zero_le _, rfl⟩
theorem Ord.step (h : Ord g out) (hl : out.length < g.length) (hv : nxt g out = some v) : Ord g (out ++ [v]) ∧ okP g out v = true ∧ v < g.length := by
  have hok : okP g out v = true := List.find?_some hv
  have hvl : v < g.length := List.mem_range.1 (List.mem_of_find?_eq_some hv)
  have hfr : freeP g out v = true := by unfold okP at hok; rw [Bool.and_eq_true] at hok; exact hok.2
  refine ⟨⟨fun b hb => ?_, fun b hb a ha he => ?_, by simp; omega, ?_⟩, hok, hvl⟩
  · rcases List.mem_append.1 hb with hb | hb
    · exact h.lt b hb
    · simp at hb; omega
  · rcases List.mem_append.1 hb with hb | hb
    · exact List.mem_append.2 (.inl (h.pre b hb a ha he))
    · simp at hb; subst hb; exact List.mem_append.2 (.inl (freeP_iff.1 hfr a ha he))
  · have h1 := h.eq
    rw [show g.length - out.length = (g.length - (out ++ [v]).length) + 1 by simp; omega] at h1
    simp only [topoF, hv] at h1
    exact h1
theorem Ord.stuck (h : Ord g out) (hl : out.length < g.length) (hv : nxt g out = none) : topo g = none := by
  rw [← h.eq, show g.length - out.length = (g.length - out.length - 1) + 1 by omega]
  simp only [topoF, hv]
theorem Ord.full (h : Ord g out) (hl : out.length = g.length) : topo g = some out := by
  rw [← h.eq, hl, Nat.sub_self]; rfl
theorem left_ok {b : Nat} : leftL g out b = 0 ↔ okP g out b = true := by
  unfold leftL okP
  by_cases e : b ∈ out
  · simp [e]
  · rw [if_neg e]
    have h1 : ((cn (fun a => ed g a b && !(decide (a ∈ out))) g.length : Nat) : Int) = 0 ↔ cn (fun a => ed g a b && !(decide (a ∈ out))) g.length = 0 := by omega
    rw [h1, cn_zero]
    simp only [e, decide_false, Bool.not_false, Bool.true_and]
    rw [freeP_iff]
    constructor
    · intro h a ha he
      have := h a ha
      simpa [he] using this
    · intro h a ha
      cases he : ed g a b with
      | false => rfl
      | true => simp [h a ha he]
theorem no_succ (h : Ord g out) (hok : okP g out v = true) (hv : v < g.length) {b : Nat} (hb : b ∈ out ++ [v]) : ed g v b = false := by
  unfold okP at hok
  rw [Bool.and_eq_true] at hok
  have hvo : v ∉ out := by simpa using hok.1
  cases e : ed g v b with
  | false => rfl
  | true =>
    rcases List.mem_append.1 hb with hb | hb
    · exact absurd (h.pre b hb v hv e) hvo
    · simp at hb; subst hb; exact absurd (freeP_iff.1 hok.2 b hv e) hvo
theorem left_start {P : Nat → Bool} (hP : ∀ b, P b = false) (b : Nat) : leftM g out v P b = if b = v then -1 else leftL g out b := by
  unfold leftM leftL
  by_cases e : b = v
  · subst e; simp
  · by_cases e' : b ∈ out
    · simp [e']
    · simp [e, e', hP]
theorem left_next (hv : v < g.length) (hvo : v ∉ out) {P : Nat → Bool} (hP : ∀ b, b < g.length → P b = ed g v b) (b : Nat) (hb : b < g.length) : leftM g out v P b = leftL g (out ++ [v]) b := by
  unfold leftM leftL
  by_cases e : b ∈ out ++ [v]
  · rw [if_pos e, if_pos e]
  · rw [if_neg e, if_neg e]
    have h1 := cn_strike (p := fun a => ed g a b && !(decide (a ∈ out))) hv
    have h2 : cn (fun a => ed g a b && !(decide (a ∈ out ++ [v]))) g.length = cn (fun a => (ed g a b && !(decide (a ∈ out))) && !(decide (a = v))) g.length := cn_congr fun a _ => by
      cases ed g a b <;> simp
    rw [h2, ← h1, hP b hb]
    simp only [hvo, decide_false, Bool.not_false, Bool.and_true]
    split <;> omega
end G
end Go.Proofs.Ytiebfnchimfjiaa
