/- Common subsequences: what common finds is a longest one. -/
import Derived.Test.YtbfgnafpianliaaDlP
namespace Go.Proofs.Ytbfgnafpianliaa
open Go.RowKit

inductive CS {α : Type} : List α → List α → Nat → Prop
  | nil (a b : List α) : CS a b 0
  | left {x : α} {l b : List α} {n : Nat} : CS l b n → CS (x :: l) b n
  | right {y : α} {a m : List α} {n : Nat} : CS a m n → CS a (y :: m) n
  | both {x : α} {l m : List α} {n : Nat} : CS l m n → CS (x :: l) (x :: m) (n + 1)

section
variable {α : Type} {a b c d : List α} {n m : Nat}
theorem CS.pre (h : CS c d m) : ∀ a b : List α, CS (a ++ c) (b ++ d) m
  | [], [] => h
  | [], y :: b => (CS.pre h [] b).right
  | x :: a, b => (CS.pre h a b).left
theorem CS.append (h : CS a b n) (k : CS c d m) : CS (a ++ c) (b ++ d) (n + m) := by
  induction h with
  | nil a b => rw [Nat.zero_add]; exact k.pre a b
  | left _ ih => exact ih.left
  | right _ ih => exact ih.right
  | both _ ih => rw [Nat.add_right_comm]; exact ih.both
theorem CS.single (x : α) : CS [x] [x] 1 := (CS.nil [] []).both
theorem CS.reverse (h : CS a b n) : CS a.reverse b.reverse n := by
  induction h with
  | nil a b => exact .nil _ _
  | @left x l b n _ ih => rw [List.reverse_cons]; simpa using ih.append (CS.nil [x] [])
  | @right y a m n _ ih => rw [List.reverse_cons]; simpa using ih.append (CS.nil [] [y])
  | @both x l m n _ ih => rw [List.reverse_cons, List.reverse_cons]; exact ih.append (CS.single x)
theorem CS.of_rev (h : CS a.reverse b.reverse n) : CS a b n := by simpa using h.reverse
theorem CS.symm (h : CS a b n) : CS b a n := by
  induction h with
  | nil a b => exact .nil _ _
  | left _ ih => exact ih.right
  | right _ ih => exact ih.left
  | both _ ih => exact ih.both
theorem CS.less (h : CS a b n) : ∀ m, m ≤ n → CS a b m := by
  induction h with
  | nil a b => intro m hm; rw [Nat.le_zero.1 hm]; exact .nil _ _
  | left _ ih => intro m hm; exact (ih m hm).left
  | right _ ih => intro m hm; exact (ih m hm).right
  | both _ ih =>
    intro m hm
    cases m with
    | zero => exact .nil _ _
    | succ m => exact (ih m (by omega)).both
theorem CS.drop_right {y : α} {l : List α} (h : CS a b n) : b = y :: l → CS a l (n - 1) := by
  induction h with
  | nil a b => intro _; exact .nil _ _
  | left _ ih => intro e; exact (ih e).left
  | right h ih => intro e; injection e with e1 e2; subst e2; exact h.less _ (by omega)
  | both h ih => intro e; injection e with e1 e2; subst e2; exact h.left
theorem CS.drop_left {y : α} {l : List α} (h : CS (y :: l) b n) : CS l b (n - 1) := (h.symm.drop_right rfl).symm
theorem CS.inv {x y : α} {l k : List α} (h : CS (x :: l) (y :: k) n) : n = 0 ∨ CS l (y :: k) n ∨ CS (x :: l) k n ∨ (x = y ∧ ∃ n', n = n' + 1 ∧ CS l k n') := by
  generalize e1 : x :: l = A at h
  generalize e2 : y :: k = B at h
  cases h with
  | nil => left; rfl
  | left h => injection e1 with _ e; subst e; subst e2; right; left; exact h
  | right h => injection e2 with _ e; subst e; subst e1; right; right; left; exact h
  | both h => injection e1 with e3 e4; injection e2 with e5 e6; subst e3; subst e4; subst e5; subst e6; right; right; right; exact ⟨rfl, _, rfl, h⟩
theorem CS.nil_left (h : CS a b n) : a = [] → n = 0 := by
  induction h with
  | nil a b => intro _; rfl
  | left _ _ => intro e; cases e
  | right _ ih => exact ih
  | both _ _ => intro e; cases e
theorem CS.split (h : CS a b n) : ∀ i, ∃ k p q, k ≤ b.length ∧ p + q = n ∧ CS (a.take i) (b.take k) p ∧ CS (a.drop i) (b.drop k) q := by
  induction h with
  | nil a b => intro i; exact ⟨0, 0, 0, Nat.zero_le _, rfl, .nil _ _, .nil _ _⟩
  | @left x l b n h ih =>
    intro i
    cases i with
    | zero => exact ⟨0, 0, n, Nat.zero_le _, by omega, .nil _ _, h.left⟩
    | succ i =>
      obtain ⟨k, p, q, h1, h2, h3, h4⟩ := ih i
      exact ⟨k, p, q, h1, h2, h3.left, h4⟩
  | @right y a m n h ih =>
    intro i
    obtain ⟨k, p, q, h1, h2, h3, h4⟩ := ih i
    exact ⟨k + 1, p, q, by simp; omega, h2, h3.right, h4⟩
  | @both x l m n h ih =>
    intro i
    cases i with
    | zero => exact ⟨0, 0, n + 1, Nat.zero_le _, by omega, .nil _ _, h.both⟩
    | succ i =>
      obtain ⟨k, p, q, h1, h2, h3, h4⟩ := ih i
      exact ⟨k + 1, p + 1, q, by simp; omega, by omega, h3.both, h4⟩
theorem CS.mem {x : α} (h : CS a b n) : a = [x] → 0 < n → x ∈ b := by
  induction h with
  | nil a b => intro _ h; omega
  | left h ih =>
    intro e hn
    injection e with _ e
    have := h.nil_left e
    omega
  | right _ ih => intro e hn; exact List.mem_cons_of_mem _ (ih e hn)
  | both _ _ => intro e _; injection e with e _; subst e; exact List.mem_cons_self ..
theorem CS.of_mem {x : α} : ∀ {b : List α}, x ∈ b → CS [x] b 1
  | y :: b, h => by
    rcases List.mem_cons.1 h with rfl | h
    · exact ((CS.nil [] b).both)
    · exact (CS.of_mem h).right
end

theorem take_snoc (a : List ByteArray) {i : Nat} (h : i < a.length) : a.take (i + 1) = a.take i ++ [a.getD i ByteArray.empty] := by
  rw [List.take_add_one, List.getElem?_eq_getElem h, List.getD_eq_getElem?_getD, List.getElem?_eq_getElem h]; rfl
theorem lcs_cs (a b : List ByteArray) : ∀ i j, i ≤ a.length → j ≤ b.length → CS (a.take i) (b.take j) (lcs a b i j)
  | 0, j, _, _ => by rw [lcs_zero']; exact .nil _ _
  | i + 1, 0, _, _ => by rw [lcs_zero]; exact .nil _ _
  | i + 1, j + 1, hi, hj => by
    unfold lcs
    have h1 := lcs_cs a b i j (by omega) (by omega)
    have h2 := lcs_cs a b i (j + 1) (by omega) hj
    have h3 := lcs_cs a b (i + 1) j hi (by omega)
    split
    · rename_i he
      rw [take_snoc a hi, take_snoc b hj, he]
      exact h1.append (CS.single _)
    · rcases Nat.le_total (lcs a b i (j + 1)) (lcs a b (i + 1) j) with c | c
      · rw [Nat.max_eq_right c]
        have := h3.append (CS.nil [] [b.getD j ByteArray.empty])
        rw [List.append_nil, ← take_snoc b hj] at this
        exact this
      · rw [Nat.max_eq_left c]
        have := h2.append (CS.nil [a.getD i ByteArray.empty] [])
        rw [List.append_nil, ← take_snoc a hi] at this
        exact this
theorem lcs_max (a b : List ByteArray) : ∀ i j n, i ≤ a.length → j ≤ b.length → CS (a.take i) (b.take j) n → n ≤ lcs a b i j
  | 0, j, n, _, _, h => by rw [h.nil_left (by simp)]; exact Nat.zero_le _
  | i + 1, 0, n, _, _, h => by rw [h.symm.nil_left (by simp)]; exact Nat.zero_le _
  | i + 1, j + 1, n, hi, hj, h => by
    obtain ⟨x, hx⟩ : ∃ x, x = a.getD i ByteArray.empty := ⟨_, rfl⟩
    obtain ⟨y, hy⟩ : ∃ x, x = b.getD j ByteArray.empty := ⟨_, rfl⟩
    have ea := take_snoc a hi
    have eb := take_snoc b hj
    rw [← hx] at ea
    rw [← hy] at eb
    have hr := h.reverse
    rw [ea, eb, List.reverse_append, List.reverse_append] at hr
    have hr : CS (x :: (a.take i).reverse) (y :: (b.take j).reverse) n := hr
    unfold lcs
    rw [← hx, ← hy]
    rcases hr.inv with h0 | h1 | h2 | ⟨h3, n', h4, h5⟩
    · omega
    · have hc : CS (a.take i) (b.take (j + 1)) n := CS.of_rev (by rw [eb, List.reverse_append]; exact h1)
      have := lcs_max a b i (j + 1) n (by omega) hj hc
      split
      · have hd : CS (a.take i) (b.take j) (n - 1) := CS.of_rev (h1.drop_right rfl)
        have := lcs_max a b i j (n - 1) (by omega) (by omega) hd
        omega
      · omega
    · have hc : CS (a.take (i + 1)) (b.take j) n := CS.of_rev (by rw [ea, List.reverse_append]; exact h2)
      have := lcs_max a b (i + 1) j n hi (by omega) hc
      split
      · have hd : CS (a.take i) (b.take j) (n - 1) := CS.of_rev h2.drop_left
        have := lcs_max a b i j (n - 1) (by omega) (by omega) hd
        omega
      · omega
    · have hc : CS (a.take i) (b.take j) n' := CS.of_rev h5
      have := lcs_max a b i j n' (by omega) (by omega) hc
      rw [if_pos h3]
      omega

/-- The length of a longest common subsequence. -/
def mx (a b : List ByteArray) : Nat := lcs a b a.length b.length
theorem mx_cs (a b : List ByteArray) : CS a b (mx a b) := by
  have := lcs_cs a b a.length b.length (Nat.le_refl _) (Nat.le_refl _)
  rwa [List.take_length, List.take_length] at this
theorem mx_max {a b : List ByteArray} {n : Nat} (h : CS a b n) : n ≤ mx a b :=
  lcs_max a b a.length b.length n (Nat.le_refl _) (Nat.le_refl _) (by rwa [List.take_length, List.take_length])
theorem lcs_mx (a b : List ByteArray) (i j : Nat) (hi : i ≤ a.length) (hj : j ≤ b.length) : lcs a b i j = mx (a.take i) (b.take j) :=
  Nat.le_antisymm (mx_max (lcs_cs a b i j hi hj)) (lcs_max a b i j _ hi hj (mx_cs _ _))
theorem mx_rev (a b : List ByteArray) : mx a.reverse b.reverse = mx a b :=
  Nat.le_antisymm (mx_max (CS.of_rev (mx_cs _ _))) (mx_max (mx_cs a b).reverse)

theorem sumF_mx (a b : List ByteArray) (k : Nat) (hk : k ≤ b.length) :
    sumF a b k = mx (a.take (a.length / 2)) (b.take k) + mx (a.drop (a.length / 2)) (b.drop k) := by
  unfold sumF
  rw [lcs_mx (a.take (a.length / 2)) b _ k (by rw [List.length_take]; omega) hk, List.take_take, Nat.min_self]
  rw [lcs_mx (a.drop (a.length / 2)).reverse b.reverse _ _ (by rw [List.length_reverse, List.length_drop]; exact Nat.le_refl _) (by rw [List.length_reverse]; omega)]
  rw [List.take_of_length_le (l := (a.drop (a.length / 2)).reverse) (by rw [List.length_reverse, List.length_drop]; exact Nat.le_refl _), List.take_reverse, show b.length - (b.length - k) = k by omega, mx_rev]
theorem bestF_max (f : Nat → Nat) : ∀ n k, k < n → f k ≤ f (bestF f n)
  | n + 1, k, hk => by
    unfold bestF
    rcases Nat.lt_or_ge k n with h | h
    · have := bestF_max f n k h
      split <;> omega
    · obtain rfl : k = n := by omega
      split <;> omega
theorem mx_split (a b : List ByteArray) : mx a b = sumF a b (bestF (sumF a b) (b.length + 1)) := by
  have hB := bestF_lt (sumF a b) (b.length + 1)
  apply Nat.le_antisymm
  · obtain ⟨k, p, q, h1, h2, h3, h4⟩ := (mx_cs a b).split (a.length / 2)
    have hb := bestF_max (sumF a b) (b.length + 1) k (by omega)
    rw [sumF_mx a b k h1] at hb
    have := mx_max h3
    have := mx_max h4
    omega
  · rw [sumF_mx a b _ (by omega)]
    apply mx_max
    have := (mx_cs (a.take (a.length / 2)) (b.take (bestF (sumF a b) (b.length + 1)))).append (mx_cs (a.drop (a.length / 2)) (b.drop (bestF (sumF a b) (b.length + 1))))
    rwa [List.take_append_drop, List.take_append_drop] at this
theorem indexF_mem (x : ByteArray) : ∀ (b : List ByteArray) (k : Int), 0 ≤ k → x ∈ b → 0 ≤ indexF x b k
  | y :: l, k, hk, h => by
    unfold indexF
    split
    · exact hk
    · rename_i hne
      rcases List.mem_cons.1 h with h | h
      · exact absurd h hne
      · exact indexF_mem x l (k + 1) (by omega) h
theorem commonF_mx : ∀ (n : Nat) (a b : List ByteArray) (i j : Nat), a.length ≤ n → (commonF n a b i j).length = mx a b
  | 0, a, b, i, j, h => by
    have : a = [] := List.eq_nil_of_length_eq_zero (by omega)
    subst this
    simp [commonF, mx, lcs]
  | n + 1, a, b, i, j, h => by
    unfold commonF
    split
    · rename_i h0
      have : a = [] := List.eq_nil_of_length_eq_zero h0
      subst this
      simp [mx, lcs]
    · split
      · rename_i h1
        obtain ⟨x, rfl⟩ : ∃ x, a = [x] := by
          match a, h1 with
          | [x], _ => exact ⟨x, rfl⟩
        have hle : mx [x] b ≤ 1 := lcs_le [x] b 1 b.length
        show (if 0 ≤ indexF x b 0 then [(i, j + (indexF x b 0).toNat)] else []).length = mx [x] b
        split
        · rename_i hp
          obtain ⟨q, _, hb⟩ := indexF_get x b 0 hp
          have := mx_max (CS.of_mem (List.mem_of_getElem? hb))
          simp; omega
        · rename_i hp
          have : mx [x] b = 0 := by
            rcases Nat.eq_zero_or_pos (mx [x] b) with h | h
            · exact h
            · exact absurd (indexF_mem x b 0 (Int.le_refl _) ((mx_cs [x] b).mem rfl h)) hp
          rw [this]; rfl
      · have hB := bestF_lt (sumF a b) (b.length + 1)
        rw [List.length_append, commonF_mx n _ _ _ _ (by rw [List.length_take]; omega), commonF_mx n _ _ _ _ (by rw [List.length_drop]; omega), mx_split a b, sumF_mx a b _ (by omega)]

/-- Each pair is of equal members. -/
theorem commonF_eq (x y : List ByteArray) : ∀ (n : Nat) (a b : List ByteArray) (i j : Nat), (∀ r, r < a.length → x[i + r]? = a[r]?) → (∀ r, r < b.length → y[j + r]? = b[r]?) →
    ∀ p ∈ commonF n a b i j, ∃ z, x[p.1]? = some z ∧ y[p.2]? = some z
  | 0, a, b, i, j, _, _, p, hp => by simp [commonF] at hp
  | n + 1, a, b, i, j, ha, hb, p, hp => by
    unfold commonF at hp
    split at hp
    · cases hp
    · split at hp
      · rename_i h1
        split at hp
        · rename_i h
          simp at hp
          subst hp
          obtain ⟨q, hq, hbq⟩ := indexF_get (a.getD 0 ByteArray.empty) b 0 h
          have hlt := (List.getElem?_eq_some_iff.1 hbq).1
          have hq' : (indexF (a.getD 0 ByteArray.empty) b 0).toNat = q := by
            have : indexF (a.getD 0 ByteArray.empty) b ((0 : Nat) : Int) = ((0 + q : Nat) : Int) := hq
            rw [show ((0 : Nat) : Int) = (0 : Int) from rfl] at this
            omega
          refine ⟨a.getD 0 ByteArray.empty, ?_, ?_⟩
          · have := ha 0 (by omega)
            rw [Nat.add_zero] at this
            show x[i]? = _
            rw [this, List.getD_eq_getElem?_getD, List.getElem?_eq_getElem (by omega)]; rfl
          · show y[j + (indexF (a.getD 0 ByteArray.empty) b 0).toNat]? = _
            rw [hq', hb q hlt, hbq]
        · cases hp
      · have hB := bestF_lt (sumF a b) (b.length + 1)
        rcases List.mem_append.1 hp with hp | hp
        · refine commonF_eq x y n _ _ i j (fun r hr => ?_) (fun r hr => ?_) p hp
          · rw [List.length_take] at hr
            rw [List.getElem?_take, if_pos (by omega)]; exact ha r (by omega)
          · rw [List.length_take] at hr
            rw [List.getElem?_take, if_pos (by omega)]; exact hb r (by omega)
        · refine commonF_eq x y n _ _ _ _ (fun r hr => ?_) (fun r hr => ?_) p hp
          · rw [List.length_drop] at hr
            rw [List.getElem?_drop, Nat.add_assoc]; exact ha _ (by omega)
          · rw [List.length_drop] at hr
            rw [List.getElem?_drop, Nat.add_assoc]; exact hb _ (by omega)
end Go.Proofs.Ytbfgnafpianliaa
