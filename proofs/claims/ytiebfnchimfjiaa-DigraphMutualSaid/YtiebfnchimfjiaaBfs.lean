/- Plain facts on distances. -/
import Derived.Test.YtiebfnchimfjiaaPure
namespace Go.Proofs.Ytiebfnchimfjiaa
namespace G

/-- Is there a way of k steps from s to b? -/
def wl (g : List (List Int)) (s : Nat) : Nat → Nat → Bool
  | 0, b => b == s
  | k + 1, b => (List.range g.length).any fun a => wl g s k a && ed g a b
theorem wl_succ {g : List (List Int)} {s k b : Nat} : wl g s (k + 1) b = true ↔ ∃ a, a < g.length ∧ wl g s k a = true ∧ ed g a b = true := by
  simp [wl, List.any_eq_true, List.mem_range, Bool.and_eq_true]
/-- b lies k steps from s, and no fewer. -/
def Min (g : List (List Int)) (s k b : Nat) : Prop := wl g s k b = true ∧ ∀ j, j < k → wl g s j b = false
/-- d is the distance from s to b: -1 if there is no way. -/
def IsD (g : List (List Int)) (s b : Nat) (d : Int) : Prop := (d = -1 ∧ ∀ k, wl g s k b = false) ∨ ∃ k : Nat, d = k ∧ Min g s k b
theorem Min.eq {g : List (List Int)} {s j k b : Nat} (h : Min g s k b) (h' : Min g s j b) : k = j := by
  rcases Nat.lt_trichotomy k j with h1 | h1 | h1
  · have := h'.2 k h1; rw [h.1] at this; cases this
  · exact h1
  · have := h.2 j h1; rw [h'.1] at this; cases this
theorem IsD.eq {g : List (List Int)} {s b : Nat} {d d' : Int} (h : IsD g s b d) (h' : IsD g s b d') : d = d' := by
  rcases h with ⟨rfl, h⟩ | ⟨k, rfl, h⟩
  · rcases h' with ⟨rfl, _⟩ | ⟨k, rfl, h'⟩
    · rfl
    · have := h'.1; rw [h k] at this; cases this
  · rcases h' with ⟨rfl, h'⟩ | ⟨j, rfl, h'⟩
    · have := h.1; rw [h' k] at this; cases this
    · rw [h.eq h']
theorem exists_min {g : List (List Int)} {s b : Nat} : ∀ {k : Nat}, wl g s k b = true → ∃ j, j ≤ k ∧ Min g s j b := by
  intro k
  induction k using Nat.strongRecOn with
  | ind k ih =>
    intro h
    by_cases hm : ∃ j, j < k ∧ wl g s j b = true
    · obtain ⟨j, hj, h1⟩ := hm
      obtain ⟨i, hi, h2⟩ := ih j hj h1
      exact ⟨i, by omega, h2⟩
    · refine ⟨k, Nat.le_refl _, h, fun j hj => ?_⟩
      cases e : wl g s j b with
      | false => rfl
      | true => exact absurd ⟨j, hj, e⟩ hm
theorem wl_lt {g : List (List Int)} {s : Nat} {k b : Nat} (h : wl g s (k + 1) b = true) : ∃ a, a < g.length ∧ Min g s k a ∧ ed g a b = true ∨ ∃ j, j < k + 1 ∧ wl g s j b = true := by
  obtain ⟨a, ha, h1, h2⟩ := wl_succ.1 h
  obtain ⟨j, hj, hm⟩ := exists_min h1
  by_cases e : j = k
  · subst e; exact ⟨a, .inl ⟨ha, hm, h2⟩⟩
  · exact ⟨a, .inr ⟨j + 1, by omega, wl_succ.2 ⟨a, ha, hm.1, h2⟩⟩⟩

/-- Few pigeonholes. -/
theorem pigeon : ∀ (n m : Nat) (f : Nat → Nat), (∀ i, i < m → f i < n) → (∀ i j, i < m → j < m → f i = f j → i = j) → m ≤ n := by
  intro n
  induction n with
  | zero =>
    intro m f h _
    rcases Nat.eq_zero_or_pos m with h0 | h0
    · omega
    · exact absurd (h 0 h0) (by omega)
  | succ n ih =>
    intro m f h hi
    by_cases hx : ∃ i, i < m ∧ f i = n
    · obtain ⟨i, him, hin⟩ := hx
      have := ih (m - 1) (fun j => f (if j < i then j else j + 1)) (fun j hj => by
        have h1 : (if j < i then j else j + 1) < m := by split <;> omega
        have h2 := h _ h1
        have h3 : f (if j < i then j else j + 1) ≠ n := fun e => by
          have := hi _ i h1 him (by rw [e, hin])
          split at this <;> omega
        omega) (fun a b ha hb e => by
        have h1 : (if a < i then a else a + 1) < m := by split <;> omega
        have h2 : (if b < i then b else b + 1) < m := by split <;> omega
        have := hi _ _ h1 h2 e
        split at this <;> split at this <;> omega)
      omega
    · have := ih m f (fun i hi' => by
        have h1 := h i hi'
        have h2 : f i ≠ n := fun e => hx ⟨i, hi', e⟩
        omega) hi
      omega

theorem min_prev {g : List (List Int)} {s k b : Nat} (h : Min g s (k + 1) b) : ∃ a, a < g.length ∧ Min g s k a := by
  obtain ⟨a, h1 | ⟨j, hj, h1⟩⟩ := wl_lt h.1
  · exact ⟨a, h1.1, h1.2.1⟩
  · have := h.2 j hj; rw [h1] at this; cases this
theorem min_all {g : List (List Int)} {s : Nat} : ∀ {k b : Nat}, b < g.length → Min g s k b → ∀ j, j ≤ k → ∃ a, a < g.length ∧ Min g s j a := by
  intro k
  induction k with
  | zero => intro b hb h j hj; obtain rfl : j = 0 := by omega
            exact ⟨b, hb, h⟩
  | succ k ih =>
    intro b hb h j hj
    by_cases e : j = k + 1
    · subst e; exact ⟨b, hb, h⟩
    · obtain ⟨a, ha, hm⟩ := min_prev h
      exact ih ha hm j (by omega)
theorem min_bound {g : List (List Int)} {s k b : Nat} (hb : b < g.length) (h : Min g s k b) : k < g.length := by
  have hall := min_all hb h
  have := pigeon g.length (k + 1) (fun j => if h' : j ≤ k then Classical.choose (hall j h') else 0) (fun i hi => by
    simp only [show i ≤ k by omega, dite_true]
    exact (Classical.choose_spec (hall i (by omega))).1) (fun i j hi hj e => by
    simp only [show i ≤ k by omega, show j ≤ k by omega, dite_true] at e
    have h1 := (Classical.choose_spec (hall i (by omega))).2
    have h2 := (Classical.choose_spec (hall j (by omega))).2
    rw [e] at h1
    exact h1.eq h2)
  omega

/-! The search in breadth. -/
structure Bfs (g : List (List Int)) (s : Nat) (d : Int) (todo : List Nat) (o : Nat → Int) : Prop where
  snd : ∀ b, b < g.length → o b = -1 ∨ ∃ k : Nat, o b = k ∧ wl g s k b = true
  src : o s = 0
  lab : ∀ b ∈ todo, b < g.length ∧ d ≤ o b ∧ o b ≤ d + 1
  srt : todo.Pairwise fun a b => o a ≤ o b
  low : ∀ b, b < g.length → o b ≠ -1 → b ∉ todo → o b ≤ d
  dne : ∀ a, a < g.length → o a ≠ -1 → a ∉ todo → ∀ b, b < g.length → ed g a b = true → o b ≠ -1 ∧ o b ≤ o a + 1
  pos : 0 ≤ d
  prv : ∀ b, b < g.length → ∀ k : Nat, o b = (k : Int) + 1 → ∃ a, a < g.length ∧ o a = k
structure BMid (g : List (List Int)) (s v : Nat) (l : List Int) (todo : List Nat) (o : Nat → Int) : Prop where
  vn : v < g.length
  vo : 0 ≤ o v
  snd : ∀ b, b < g.length → o b = -1 ∨ ∃ k : Nat, o b = k ∧ wl g s k b = true
  src : o s = 0
  lab : ∀ b ∈ todo, b < g.length ∧ o v ≤ o b ∧ o b ≤ o v + 1
  srt : todo.Pairwise fun a b => o a ≤ o b
  low : ∀ b, b < g.length → o b ≠ -1 → b ∉ todo → o b ≤ o v
  dne : ∀ a, a < g.length → o a ≠ -1 → a ∉ todo → a ≠ v → ∀ b, b < g.length → ed g a b = true → o b ≠ -1 ∧ o b ≤ o a + 1
  seen : ∀ y : Nat, y < g.length → (y : Int) ∈ l → o y ≠ -1 ∧ o y ≤ o v + 1
  prv : ∀ b, b < g.length → ∀ k : Nat, o b = (k : Int) + 1 → ∃ a, a < g.length ∧ o a = k

variable {g : List (List Int)} {s v : Nat} {d : Int} {todo : List Nat} {o o' : Nat → Int} {l : List Int}
theorem Bfs.start (hsn : s < g.length) (h : ∀ b, o b = if b = s then 0 else -1) : Bfs g s 0 [s] o := by
  have hs : o s = 0 := by rw [h]; simp
  refine ⟨fun b _ => ?_, hs, fun b hb => ?_, by simp, fun b _ h1 h2 => ?_, fun a _ h1 h2 => ?_, Int.le_refl _, fun b hb k hk => ?_⟩
  · rw [h]; by_cases e : b = s
    · subst e; exact .inr ⟨0, by simp, by simp [wl]⟩
    · simp [e]
  · simp at hb; subst hb
    exact ⟨hsn, by omega, by omega⟩
  · simp at h2; rw [h] at h1; simp [h2] at h1
  · simp at h2; rw [h] at h1; simp [h2] at h1
  · rw [h] at hk; split at hk <;> omega
theorem Bfs.pop (h : Bfs g s d (v :: todo) o) : BMid g s v [] todo o := by
  have hv := h.lab v (by simp)
  have hp := h.pos
  have hs := List.pairwise_cons.1 h.srt
  refine ⟨hv.1, by omega, h.snd, h.src, fun b hb => ?_, hs.2, fun b hb h1 h2 => ?_, fun a ha h1 h2 hne b hb he => ?_, fun y _ hy => (by simp at hy), h.prv⟩
  · have h1 := h.lab b (by simp [hb])
    have h2 := hs.1 b hb
    exact ⟨h1.1, by omega, by omega⟩
  · by_cases e : b = v
    · subst e; exact Int.le_refl _
    · have := h.low b hb h1 (by simp [e, h2]); omega
  · exact h.dne a ha h1 (by simp [hne, h2]) b hb he
theorem BMid.skip {a : Int} (h : BMid g s v l todo o) (ha : ∀ y : Nat, a = y → y < g.length → o y ≠ -1) : BMid g s v (l ++ [a]) todo o := by
  refine ⟨h.vn, h.vo, h.snd, h.src, h.lab, h.srt, h.low, h.dne, fun y hy hm => ?_, h.prv⟩
  rcases List.mem_append.1 hm with hm | hm
  · exact h.seen y hy hm
  · simp at hm
    have h1 := ha y hm.symm hy
    refine ⟨h1, ?_⟩
    by_cases e : y ∈ todo
    · exact (h.lab y e).2.2
    · have := h.low y hy h1 e; omega
theorem BMid.add {y : Nat} (h : BMid g s v l todo o) (hy : y < g.length) (hr : (y : Int) ∈ row g v) (hno : o y = -1) (ho : ∀ b, o' b = if b = y then o v + 1 else o b) :
    BMid g s v (l ++ [(y : Int)]) (todo ++ [y]) o' := by
  have hvy : v ≠ y := fun e => by have := h.vo; rw [e, hno] at this; omega
  have hov : o' v = o v := by rw [ho, if_neg hvy]
  have hsy : s ≠ y := fun e => by have := h.src; rw [e, hno] at this; omega
  have hyt : y ∉ todo := fun e => by have := (h.lab y e).2.1; have := h.vo; rw [hno] at *; omega
  have hot : ∀ b ∈ todo, o' b = o b := fun b hb => by rw [ho, if_neg (fun e : b = y => hyt (e ▸ hb))]
  have hoy : o' y = o v + 1 := by rw [ho, if_pos rfl]
  have hvo := h.vo
  have old : ∀ b, b ≠ y → o' b = o b := fun b hb => by rw [ho, if_neg hb]
  refine ⟨h.vn, by rw [hov]; exact hvo, fun b hb => ?_, by rw [old s hsy]; exact h.src, fun b hb => ?_, ?_, fun b hb h1 h2 => ?_, fun a ha h1 h2 hne b hb he => ?_, fun z hz hm => ?_, fun b hb k hk => ?_⟩
  · by_cases e : b = y
    · subst e
      right
      rcases h.snd v h.vn with h1 | ⟨k, h1, h2⟩
      · omega
      · exact ⟨k + 1, by rw [hoy, h1]; simp, wl_succ.2 ⟨v, h.vn, h2, by simpa [ed] using hr⟩⟩
    · rw [old b e]; exact h.snd b hb
  · rcases List.mem_append.1 hb with hb | hb
    · rw [hot b hb, hov]; exact h.lab b hb
    · simp at hb; subst hb; rw [hoy, hov]; exact ⟨hy, by omega, by omega⟩
  · rw [List.pairwise_append]
    refine ⟨?_, by simp, fun a ha b hb => ?_⟩
    · refine h.srt.imp_of_mem ?_
      intro a b ha hb hab
      rw [hot a ha, hot b hb]; exact hab
    · simp at hb; subst hb; rw [hot a ha, hoy]; exact (h.lab a ha).2.2
  · have e : b ≠ y := fun e => h2 (by simp [e])
    rw [old b e] at h1 ⊢; rw [hov]; exact h.low b hb h1 (fun hm => h2 (by simp [hm]))
  · have e : a ≠ y := fun e => h2 (by simp [e])
    rw [old a e] at h1 ⊢
    have := h.dne a ha h1 (fun hm => h2 (by simp [hm])) hne b hb he
    have e' : b ≠ y := fun e => by rw [e, hno] at this; exact this.1 rfl
    rw [old b e']; exact this
  · by_cases e : z = y
    · subst e; rw [hoy, hov]; exact ⟨by omega, by omega⟩
    · rw [old z e, hov]
      rcases List.mem_append.1 hm with hm | hm
      · exact h.seen z hz hm
      · simp at hm; omega
  · by_cases e : b = y
    · subst e; rw [hoy] at hk; exact ⟨v, h.vn, by rw [hov]; omega⟩
    · rw [old b e] at hk
      obtain ⟨a, ha, h1⟩ := h.prv b hb k hk
      exact ⟨a, ha, by rw [old a (fun e => by rw [e, hno] at h1; omega)]; exact h1⟩
theorem BMid.fin (h : BMid g s v (row g v) todo o) : Bfs g s (o v) todo o := by
  refine ⟨h.snd, h.src, h.lab, h.srt, h.low, fun a ha h1 h2 b hb he => ?_, h.vo, h.prv⟩
  by_cases e : a = v
  · subst e; exact h.seen b hb (by simpa [ed] using he)
  · exact h.dne a ha h1 h2 e b hb he
theorem Bfs.fin (hs : s < g.length) (h : Bfs g s d [] o) (b : Nat) (hb : b < g.length) : IsD g s b (o b) := by
  have key : ∀ k b, b < g.length → wl g s k b = true → o b ≠ -1 ∧ o b ≤ k := by
    intro k
    induction k with
    | zero => intro b _ hw; simp [wl] at hw; subst hw; rw [h.src]; exact ⟨by omega, by simp⟩
    | succ k ih =>
      intro b hb hw
      obtain ⟨a, ha, h1, h2⟩ := wl_succ.1 hw
      have h3 := ih a ha h1
      have h4 := h.dne a ha h3.1 (by simp) b hb h2
      exact ⟨h4.1, by have := h3.2; have := h4.2; simp; omega⟩
  rcases h.snd b hb with h1 | ⟨k, h1, h2⟩
  · refine .inl ⟨h1, fun k => ?_⟩
    cases e : wl g s k b with
    | false => rfl
    | true => exact absurd h1 (key k b hb e).1
  · refine .inr ⟨k, h1, h2, fun j hj => ?_⟩
    cases e : wl g s j b with
    | false => rfl
    | true => have := (key j b hb e).2; omega
theorem label_bound (hp : ∀ b, b < g.length → ∀ k : Nat, o b = (k : Int) + 1 → ∃ a, a < g.length ∧ o a = k) {b k : Nat} (hb : b < g.length) (h : o b = k) : k < g.length := by
  have hall : ∀ k b, b < g.length → o b = (k : Nat) → ∀ j, j ≤ k → ∃ a, a < g.length ∧ o a = (j : Nat) := by
    intro k
    induction k with
    | zero => intro b hb h j hj; obtain rfl : j = 0 := by omega
              exact ⟨b, hb, h⟩
    | succ k ih =>
      intro b hb h j hj
      by_cases e : j = k + 1
      · subst e; exact ⟨b, hb, h⟩
      · obtain ⟨a, ha, h1⟩ := hp b hb k (by rw [h]; simp)
        exact ih a ha h1 j (by omega)
  have hall := hall k b hb h
  have := pigeon g.length (k + 1) (fun j => if h' : j ≤ k then Classical.choose (hall j h') else 0) (fun i hi => by
    simp only [show i ≤ k by omega, dite_true]
    exact (Classical.choose_spec (hall i (by omega))).1) (fun i j hi hj e => by
    simp only [show i ≤ k by omega, show j ≤ k by omega, dite_true] at e
    have h1 := (Classical.choose_spec (hall i (by omega))).2
    have h2 := (Classical.choose_spec (hall j (by omega))).2
    rw [e, h2] at h1
    omega)
  omega
theorem BMid.bound (h : BMid g s v l todo o) : o v < g.length := by
  rcases h.snd v h.vn with h1 | ⟨k, h1, _⟩
  · have := h.vo; omega
  · have := label_bound h.prv h.vn h1; omega
def cntI (o : Nat → Int) : Nat → Nat
  | 0 => 0
  | k + 1 => cntI o k + if o k = -1 then 1 else 0
/-- What is left to do. -/
def unl (o : Nat → Int) (n : Nat) : Nat := cntI o n
theorem unl_le (o : Nat → Int) (n : Nat) : unl o n ≤ n := by
  unfold unl
  induction n with
  | zero => exact Nat.le_refl _
  | succ k ih => simp only [cntI]; split <;> omega
theorem unl_add {n y : Nat} (hy : y < n) (h1 : o y = -1) (h2 : o' y ≠ -1) (h : ∀ b, b ≠ y → o' b = o b) : unl o' n + 1 = unl o n := by
  unfold unl
  induction n with
  | zero => omega
  | succ k ih =>
    simp only [cntI]
    by_cases e : y = k
    · subst e
      have : cntI o' y = cntI o y := by
        have gen : ∀ m, m ≤ y → cntI o' m = cntI o m := by
          intro m
          induction m with
          | zero => intro _; rfl
          | succ m ih => intro hm; simp only [cntI]; rw [ih (by omega), h m (by omega)]
        exact gen y (Nat.le_refl _)
      rw [this]; simp [h1, h2]
    · have := ih (by omega)
      rw [h k (Ne.symm e)]; omega

/-! By levels. -/
/-- The nodes at distance d at most are marked, and no others. -/
def Lv (g : List (List Int)) (s d : Nat) (o : Nat → Int) : Prop :=
  ∀ b, b < g.length → (o b = -1 ∧ ∀ k, k ≤ d → wl g s k b = false) ∨ ∃ k : Nat, k ≤ d ∧ o b = k ∧ Min g s k b
/-- .. and of those at distance d + 1 what the places before (a, j) lead to. -/
def LMid (g : List (List Int)) (s d a j : Nat) (o : Nat → Int) : Prop :=
  ∀ b, b < g.length → (o b = -1 ∧ (∀ k, k ≤ d → wl g s k b = false) ∧ ∀ x, x < g.length → (x < a ∨ x = a ∧ b < j) → o x = d → ed g x b = false) ∨ ∃ k : Nat, k ≤ d + 1 ∧ o b = k ∧ Min g s k b
theorem Lv.start (h : ∀ b, o b = if b = s then 0 else -1) : Lv g s 0 o := by
  intro b _
  rw [h]
  by_cases e : b = s
  · subst e; exact .inr ⟨0, Nat.le_refl _, by simp, by simp [wl], fun j hj => absurd hj (by omega)⟩
  · refine .inl ⟨by simp [e], fun k hk => ?_⟩
    obtain rfl : k = 0 := by omega
    simp [wl, e]
theorem Lv.mid {d : Nat} (h : Lv g s d o) : LMid g s d 0 0 o := fun b hb => by
  rcases h b hb with ⟨h1, h2⟩ | ⟨k, h1, h2, h3⟩
  · exact .inl ⟨h1, h2, fun x _ hx => absurd hx (by omega)⟩
  · exact .inr ⟨k, by omega, h2, h3⟩
theorem LMid.row {d a : Nat} (h : LMid g s d a g.length o) : LMid g s d (a + 1) 0 o := fun b hb => by
  rcases h b hb with ⟨h1, h2, h3⟩ | h1
  · exact .inl ⟨h1, h2, fun x hx hc => h3 x hx (by omega)⟩
  · exact .inr h1
theorem LMid.leave {d a j : Nat} (h : LMid g s d a j o) (ha : o a ≠ d) : LMid g s d (a + 1) 0 o := fun b hb => by
  rcases h b hb with ⟨h1, h2, h3⟩ | h1
  · exact .inl ⟨h1, h2, fun x hx hc ho => by
      by_cases e : x = a
      · subst e; exact absurd ho ha
      · exact h3 x hx (by omega) ho⟩
  · exact .inr h1
theorem LMid.skip {d a j : Nat} (h : LMid g s d a j o) (hn : ed g a j = false ∨ o j ≠ -1) : LMid g s d a (j + 1) o := fun b hb => by
  rcases h b hb with ⟨h1, h2, h3⟩ | h1
  · refine .inl ⟨h1, h2, fun x hx hc ho => ?_⟩
    by_cases e : x = a ∧ b = j
    · obtain ⟨rfl, rfl⟩ := e
      rcases hn with hn | hn
      · exact hn
      · exact absurd h1 hn
    · exact h3 x hx (by omega) ho
  · exact .inr h1
theorem LMid.add {d a j : Nat} (h : LMid g s d a j o) (ha : a < g.length) (hj : j < g.length) (hd : o a = d) (he : ed g a j = true) (hno : o j = -1) (ho : ∀ b, o' b = if b = j then (d : Int) + 1 else o b) : LMid g s d a (j + 1) o' := fun b hb => by
  have hmin : Min g s d a := by
    rcases h a ha with ⟨h1, _⟩ | ⟨k, _, h2, h3⟩
    · omega
    · obtain rfl : k = d := by omega
      exact h3
  by_cases e : b = j
  · subst e
    refine .inr ⟨d + 1, Nat.le_refl _, by rw [ho, if_pos rfl]; simp, wl_succ.2 ⟨a, ha, hmin.1, he⟩, fun i hi => ?_⟩
    rcases h b hj with ⟨_, h2, _⟩ | ⟨k, _, h2, _⟩
    · exact h2 i (by omega)
    · omega
  · rw [ho, if_neg e]
    rcases h b hb with ⟨h1, h2, h3⟩ | h1
    · refine .inl ⟨h1, h2, fun x hx hc hx' => ?_⟩
      have ex : x ≠ j := fun e => by rw [ho, if_pos e] at hx'; omega
      rw [ho, if_neg ex] at hx'
      exact h3 x hx (by omega) hx'
    · exact .inr h1
theorem LMid.fin {d : Nat} (h : LMid g s d g.length 0 o) : Lv g s (d + 1) o := fun b hb => by
  rcases h b hb with ⟨h1, h2, h3⟩ | h1
  · refine .inl ⟨h1, fun k hk => ?_⟩
    by_cases e : k = d + 1
    · subst e
      cases hw : wl g s (d + 1) b with
      | false => rfl
      | true =>
        obtain ⟨a, ha | ⟨j, hj, hw'⟩⟩ := wl_lt hw
        · have hoa : o a = d := by
            rcases h a ha.1 with ⟨_, h5, _⟩ | ⟨k, _, h6, h7⟩
            · have := h5 d (Nat.le_refl _); rw [ha.2.1.1] at this; cases this
            · rw [h6, h7.eq ha.2.1]
          have := h3 a ha.1 (.inl ha.1) hoa
          rw [ha.2.2] at this; cases this
        · have := h2 j (by omega); rw [hw'] at this; cases this
    · exact h2 k (by omega)
  · exact .inr h1
theorem Lv.fin (h : Lv g s g.length o) (b : Nat) (hb : b < g.length) : IsD g s b (o b) := by
  rcases h b hb with ⟨h1, h2⟩ | ⟨k, _, h2, h3⟩
  · refine .inl ⟨h1, fun k => ?_⟩
    cases e : wl g s k b with
    | false => rfl
    | true =>
      obtain ⟨j, _, hm⟩ := exists_min e
      have := h2 j (by have := min_bound hb hm; omega)
      rw [hm.1] at this; cases this
  · exact .inr ⟨k, h2, h3⟩
end G
end Go.Proofs.Ytiebfnchimfjiaa
