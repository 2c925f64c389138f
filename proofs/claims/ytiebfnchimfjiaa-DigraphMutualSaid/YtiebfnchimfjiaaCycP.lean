/- Plain facts on cycles. -/
import Derived.Test.YtiebfnchimfjiaaTopoP
namespace Go.Proofs.Ytiebfnchimfjiaa
namespace G
variable {g : List (List Int)}
theorem wl_cat {a c : Nat} {i : Nat} : ∀ {j b : Nat}, wl g a i c = true → wl g c j b = true → wl g a (i + j) b = true := by
  intro j
  induction j with
  | zero => intro b h1 h2; simp [wl] at h2; subst h2; exact h1
  | succ j ih =>
    intro b h1 h2
    obtain ⟨x, hx, h3, h4⟩ := wl_succ.1 h2
    exact wl_succ.2 ⟨x, hx, ih h1 h3, h4⟩
theorem wl_of_Pk : ∀ {k a b : Nat}, k ≤ g.length → a < g.length → Pk g k a b → ∃ m, wl g a (m + 1) b = true := by
  intro k
  induction k with
  | zero => intro a b _ ha h; exact ⟨0, wl_succ.2 ⟨a, ha, by simp [wl], h⟩⟩
  | succ k ih =>
    intro a b hk ha h
    rcases h with h | ⟨h1, h2⟩
    · exact ih (by omega) ha h
    · obtain ⟨m, h1⟩ := ih (by omega) ha h1
      obtain ⟨l, h2⟩ := ih (by omega) (by omega) h2
      exact ⟨m + 1 + l, (by have h3 := wl_cat h1 h2; exact h3)⟩
theorem Rs_of_wl : ∀ {k s b : Nat}, wl g s k b = true → Rs g s b := by
  intro k
  induction k with
  | zero => intro s b h; simp [wl] at h; exact .inl h.symm
  | succ k ih =>
    intro s b h
    obtain ⟨a, ha, h1, h2⟩ := wl_succ.1 h
    exact Rs.trans ha (ih h1) (Rs.edge h2)
theorem wl_of_Rs {s b : Nat} (hs : s < g.length) (h : Rs g s b) : ∃ k, wl g s k b = true := by
  rcases h with rfl | h
  · exact ⟨0, by simp [wl]⟩
  · obtain ⟨m, h⟩ := wl_of_Pk (Nat.le_refl _) hs h
    exact ⟨m + 1, h⟩

open Classical in
/-- The distance from b to v. -/
noncomputable def dv (g : List (List Int)) (v b : Nat) : Int := if h : ∃ k, Min (rev g) v k b then ((Classical.choose h : Nat) : Int) else -1
theorem dv_is (v b : Nat) : IsD (rev g) v b (dv g v b) := by
  unfold dv
  split
  · rename_i h; exact .inr ⟨_, rfl, Classical.choose_spec h⟩
  · rename_i h
    refine .inl ⟨rfl, fun k => ?_⟩
    cases e : wl (rev g) v k b with
    | false => rfl
    | true => obtain ⟨j, _, hm⟩ := exists_min e; exact absurd ⟨j, hm⟩ h
theorem dv_eq {v b : Nat} {d : Int} (h : IsD (rev g) v b d) : d = dv g v b := h.eq (dv_is v b)
theorem dv_ge {v b : Nat} (hv : v < g.length) (hb : b < g.length) : 0 ≤ dv g v b ↔ Rs g b v := by
  rw [← Rs_rev hv hb]
  rcases dv_is (g := g) v b with ⟨h1, h2⟩ | ⟨k, h1, h2⟩
  · rw [h1]
    refine ⟨fun h => absurd h (by omega), fun h => ?_⟩
    obtain ⟨k, hk⟩ := wl_of_Rs (g := rev g) (by rw [rev_len]; exact hv) h
    rw [h2 k] at hk; cases hk
  · rw [h1]; exact ⟨fun _ => Rs_of_wl h2.1, fun _ => by omega⟩
theorem dv_self (v : Nat) : dv g v v = 0 := (dv_eq (.inr ⟨0, rfl, by simp [wl], fun j hj => absurd hj (by omega)⟩)).symm
theorem dv_next {v b : Nat} {l : Nat} (hb : b < g.length) (h : dv g v b = (l : Int) + 1) : ∃ c, c < g.length ∧ ed g b c = true ∧ dv g v c = l := by
  rcases dv_is (g := g) v b with ⟨h1, _⟩ | ⟨k, h1, h2⟩
  · omega
  · obtain rfl : k = l + 1 := by omega
    obtain ⟨a, ⟨ha, hm, he⟩ | ⟨j, hj, hw⟩⟩ := wl_lt h2.1
    · rw [rev_len] at ha
      rw [ed_rev ha hb] at he
      exact ⟨a, ha, he, (dv_eq (.inr ⟨l, rfl, hm⟩)).symm⟩
    · have := h2.2 j hj; rw [hw] at this; cases this
theorem dv_bound {v b : Nat} (hb : b < g.length) : dv g v b < g.length := by
  rcases dv_is (g := g) v b with ⟨h1, _⟩ | ⟨k, h1, h2⟩
  · omega
  · have := min_bound (by rw [rev_len]; exact hb) h2; rw [rev_len] at this; omega
theorem dv_low (v b : Nat) : -1 ≤ dv g v b := by
  rcases dv_is (g := g) v b with ⟨h1, _⟩ | ⟨k, h1, h2⟩ <;> omega
/-- v lies on a cycle. -/
theorem on_cycle {v : Nat} (hv : v < g.length) : Pk g g.length v v ↔ ∃ w, w < g.length ∧ ed g v w = true ∧ 0 ≤ dv g v w := by
  constructor
  · intro h
    have h' := (Pk_rev (Nat.le_refl _) hv hv).2 h
    obtain ⟨m, hm⟩ := wl_of_Pk (g := rev g) (by rw [rev_len]; exact Nat.le_refl _) (by rw [rev_len]; exact hv) h'
    obtain ⟨a, ha, h1, h2⟩ := wl_succ.1 hm
    rw [rev_len] at ha
    rw [ed_rev ha hv] at h2
    exact ⟨a, ha, h2, (dv_ge hv ha).2 ((Rs_rev hv ha).1 (Rs_of_wl h1))⟩
  · rintro ⟨w, hw, h1, h2⟩
    rcases (dv_ge hv hw).1 h2 with h3 | h3
    · subst h3; exact Pk_mono (k := 0) h1 (Nat.zero_le _)
    · exact Pk_trans hw (Pk_mono (k := 0) h1 (Nat.zero_le _)) h3

theorem upto_yes {p : Nat → Prop} {j : Nat} (hj : p j) (x : Nat) : (x < j + 1 ∧ p x) ↔ (x < j ∧ p x) ∨ x = j := by
  constructor
  · rintro ⟨h1, h2⟩
    by_cases e : x = j
    · exact .inr e
    · exact .inl ⟨by omega, h2⟩
  · rintro (⟨h1, h2⟩ | rfl)
    · exact ⟨by omega, h2⟩
    · exact ⟨by omega, hj⟩
theorem upto_no {p : Nat → Prop} {j : Nat} (hj : ¬ p j) (x : Nat) : (x < j + 1 ∧ p x) ↔ (x < j ∧ p x) := by
  constructor
  · rintro ⟨h1, h2⟩
    by_cases e : x = j
    · subst e; exact absurd h2 hj
    · exact ⟨by omega, h2⟩
  · rintro ⟨h1, h2⟩; exact ⟨by omega, h2⟩

/-- The least distance, not below 0, of those in S. -/
def Best (D : Nat → Int) (S : Nat → Prop) (m : Int) : Prop := (m = -1 ∧ ∀ w, S w → D w < 0) ∨ (0 ≤ m ∧ (∃ w, S w ∧ D w = m) ∧ ∀ w, S w → 0 ≤ D w → m ≤ D w)
theorem Best.start {D : Nat → Int} {S : Nat → Prop} (h : ∀ w, ¬ S w) : Best D S (-1) := .inl ⟨rfl, fun w hw => absurd hw (h w)⟩
theorem Best.same {D : Nat → Int} {S S' : Nat → Prop} {m : Int} (h : Best D S m) (hS : ∀ w, S' w ↔ S w) : Best D S' m := by
  have : S' = S := funext fun w => propext (hS w)
  rw [this]; exact h
theorem Best.take {D : Nat → Int} {S S' : Nat → Prop} {m : Int} {w : Nat} (h : Best D S m) (hS : ∀ x, S' x ↔ S x ∨ x = w) (h0 : 0 ≤ D w) (hm : m < 0 ∨ D w < m) : Best D S' (D w) := by
  refine .inr ⟨h0, ⟨w, (hS w).2 (.inr rfl), rfl⟩, fun x hx hx0 => ?_⟩
  rcases (hS x).1 hx with h1 | h1
  · rcases h with ⟨_, h2⟩ | ⟨_, _, h2⟩
    · have := h2 x h1; omega
    · have := h2 x h1 hx0; omega
  · subst h1; exact Int.le_refl _
theorem Best.leave {D : Nat → Int} {S S' : Nat → Prop} {m : Int} {w : Nat} (h : Best D S m) (hS : ∀ x, S' x ↔ S x ∨ x = w) (h0 : ¬ (0 ≤ D w ∧ (m < 0 ∨ D w < m))) : Best D S' m := by
  rcases h with ⟨h1, h2⟩ | ⟨h1, ⟨x, hx, hx'⟩, h3⟩
  · refine .inl ⟨h1, fun x hx => ?_⟩
    rcases (hS x).1 hx with h | h
    · exact h2 x h
    · subst h; omega
  · refine .inr ⟨h1, ⟨x, (hS x).2 (.inl hx), hx'⟩, fun y hy hy0 => ?_⟩
    rcases (hS y).1 hy with h | h
    · exact h3 y h hy0
    · subst h; omega
theorem Best.eq {D : Nat → Int} {S : Nat → Prop} {m m' : Int} (h : Best D S m) (h' : Best D S m') : m = m' := by
  rcases h with ⟨h1, h2⟩ | ⟨h1, ⟨x, hx, hx'⟩, h3⟩
  · rcases h' with ⟨k1, _⟩ | ⟨k1, ⟨y, hy, hy'⟩, _⟩
    · omega
    · have := h2 y hy; omega
  · rcases h' with ⟨k1, k2⟩ | ⟨k1, ⟨y, hy, hy'⟩, k3⟩
    · have := k2 x hx; omega
    · have := h3 y hy (by omega); have := k3 x hx (by omega); omega
/-- The least of those in S, or -1. -/
def Lst (S : Nat → Prop) (x : Int) : Prop := (x = -1 ∧ ∀ w, ¬ S w) ∨ ∃ w : Nat, x = w ∧ S w ∧ ∀ y, S y → w ≤ y
theorem Lst.same {S S' : Nat → Prop} {m : Int} (h : Lst S m) (hS : ∀ w, S' w ↔ S w) : Lst S' m := by
  have : S' = S := funext fun w => propext (hS w)
  rw [this]; exact h
theorem Lst.take {S S' : Nat → Prop} {x : Int} {w : Nat} (h : Lst S x) (hS : ∀ y, S' y ↔ S y ∨ y = w) (hx : x < 0 ∨ (w : Int) < x) : Lst S' w := by
  refine .inr ⟨w, rfl, (hS w).2 (.inr rfl), fun y hy => ?_⟩
  rcases (hS y).1 hy with h1 | h1
  · rcases h with ⟨_, h2⟩ | ⟨z, hz, _, h2⟩
    · exact absurd h1 (h2 y)
    · have := h2 y h1; omega
  · omega
theorem Lst.leave {S S' : Nat → Prop} {x : Int} {w : Nat} (h : Lst S x) (hS : ∀ y, S' y ↔ S y ∨ y = w) (hx : ¬ (x < 0 ∨ (w : Int) < x)) : Lst S' x := by
  rcases h with ⟨h1, _⟩ | ⟨z, hz, h1, h2⟩
  · omega
  · refine .inr ⟨z, hz, (hS z).2 (.inl h1), fun y hy => ?_⟩
    rcases (hS y).1 hy with h3 | h3
    · exact h2 y h3
    · omega
theorem Lst.eq {S : Nat → Prop} {x x' : Int} (h : Lst S x) (h' : Lst S x') : x = x' := by
  rcases h with ⟨h1, h2⟩ | ⟨w, h1, h2, h3⟩
  · rcases h' with ⟨k1, _⟩ | ⟨w', _, k2, _⟩
    · omega
    · exact absurd k2 (h2 w')
  · rcases h' with ⟨k1, k2⟩ | ⟨w', k1, k2, k3⟩
    · exact absurd h2 (k2 w)
    · have := h3 w' k2; have := k3 w h2; omega

/-- The successors of a at a distance. -/
def SucD (g : List (List Int)) (v a : Nat) (l : Int) (w : Nat) : Prop := w < g.length ∧ ed g a w = true ∧ dv g v w = l
/-- The way home: at each step the least successor that lies nearer. -/
inductive Pth (g : List (List Int)) (v : Nat) : Nat → Nat → List Nat → Prop
  | nil (a : Nat) : Pth g v 0 a []
  | cons {l a b : Nat} {rest : List Nat} (h : Lst (SucD g v a ((l : Int) + 1)) b) (hr : Pth g v l b rest) : Pth g v (l + 1) a (b :: rest)
theorem Pth.eq {v l a : Nat} {r r' : List Nat} (h : Pth g v l a r) : Pth g v l a r' → r = r' := by
  induction h generalizing r' with
  | nil a => intro h'; cases h'; rfl
  | cons h hr ih =>
    intro h'
    cases h' with
    | cons k kr =>
      have e := h.eq k
      have e2 : _ = _ := Int.ofNat.inj e
      subst e2
      rw [ih kr]
/-- How the way goes on: from a with l steps left. -/
theorem Pth.snoc {v : Nat} {m a : Nat} {r : List Nat} : ∀ {l b : Nat}, (∀ rest, Pth g v (l + 1) a rest → Pth g v m v (r ++ rest)) → Lst (SucD g v a ((l : Int) + 1)) b → ∀ rest, Pth g v l b rest → Pth g v m v (r ++ [b] ++ rest) := by
  intro l b h hb rest hr
  rw [List.append_assoc]; exact h _ (.cons hb hr)
/-- The cycle that is asked for. -/
def IsCyc (g : List (List Int)) (c : List Int) : Prop :=
  (c = [] ∧ ∀ v, v < g.length → ¬ Pk g g.length v v) ∨
  ∃ v m r, v < g.length ∧ Pk g g.length v v ∧ (∀ u, u < v → ¬ Pk g g.length u u) ∧ Best (dv g v) (fun w => w < g.length ∧ ed g v w = true) (m : Nat) ∧ Pth g v m v r ∧ c = ints (v :: r)
theorem IsCyc.eq {c c' : List Int} (h : IsCyc g c) (h' : IsCyc g c') : c = c' := by
  rcases h with ⟨rfl, h2⟩ | ⟨v, m, r, h1, h2, h3, h4, h5, rfl⟩
  · rcases h' with ⟨rfl, _⟩ | ⟨v, m, r, k1, k2, _⟩
    · rfl
    · exact absurd k2 (h2 v k1)
  · rcases h' with ⟨rfl, k2⟩ | ⟨v', m', r', k1, k2, k3, k4, k5, rfl⟩
    · exact absurd h2 (k2 v h1)
    · have e : v = v' := by
        rcases Nat.lt_trichotomy v v' with e | e | e
        · exact absurd h2 (k3 v e)
        · exact e
        · exact absurd k2 (h3 v' e)
      subst e
      have e2 : m = m' := Int.ofNat.inj (h4.eq k4)
      subst e2
      rw [h5.eq k5]
end G
end Go.Proofs.Ytiebfnchimfjiaa
