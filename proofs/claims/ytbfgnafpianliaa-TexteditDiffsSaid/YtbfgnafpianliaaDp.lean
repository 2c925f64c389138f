/- Diff: what it computes. -/
import Derived.Test.YtbfgnafpianliaaCm
namespace Go.Proofs.Ytbfgnafpianliaa
open Go.RowKit

/-- The length of the common beginning. -/
def preLen : List ByteArray → List ByteArray → Nat
  | a :: l, b :: m => if a = b then preLen l m + 1 else 0
  | _, _ => 0
theorem preLen_le : ∀ a b : List ByteArray, preLen a b ≤ a.length ∧ preLen a b ≤ b.length
  | [], b => by simp [preLen]
  | a :: l, [] => by simp [preLen]
  | a :: l, b :: m => by
    have := preLen_le l m
    unfold preLen
    split <;> simp <;> omega
theorem preLen_nil (a b : List ByteArray) (h : a = [] ∨ b = []) : preLen a b = 0 := by
  rcases h with rfl | rfl
  · simp [preLen]
  · cases a <;> simp [preLen]

def totalB : List ByteArray → Nat
  | [] => 0
  | x :: l => x.size + totalB l
def joinB : List ByteArray → ByteArray
  | [] => ByteArray.empty
  | x :: l => x ++ joinB l
theorem totalB_append : ∀ a b : List ByteArray, totalB (a ++ b) = totalB a + totalB b
  | [], b => by simp [totalB]
  | x :: l, b => by simp [totalB, totalB_append l b]; omega
theorem joinB_size : ∀ a : List ByteArray, (joinB a).size = totalB a
  | [] => rfl
  | x :: l => by simp [joinB, totalB, joinB_size l]
theorem bytes_assoc (a b c : ByteArray) : a ++ b ++ c = a ++ (b ++ c) := by
  apply ByteArray.ext; simp
theorem empty_append (a : ByteArray) : ByteArray.empty ++ a = a := by
  apply ByteArray.ext; simp
theorem append_empty (a : ByteArray) : a ++ ByteArray.empty = a := by
  apply ByteArray.ext; simp
theorem joinB_append : ∀ a b : List ByteArray, joinB (a ++ b) = joinB a ++ joinB b
  | [], b => by simp [joinB]
  | x :: l, b => by simp [joinB, joinB_append l b, bytes_assoc]
theorem totalB_take_le (l : List ByteArray) (k : Nat) : totalB (l.take k) ≤ totalB l := by
  have := totalB_append (l.take k) (l.drop k)
  rw [List.take_append_drop] at this
  omega
/-- The members from place i up to place j. -/
def seg (l : List ByteArray) (i j : Nat) : List ByteArray := (l.take j).drop i
theorem seg_len (l : List ByteArray) {i j : Nat} (h : i ≤ j) (hj : j ≤ l.length) : (seg l i j).length = j - i := by
  rw [seg, List.length_drop, List.length_take]; omega
theorem take_seg (l : List ByteArray) {i j : Nat} (h : i ≤ j) : l.take j = l.take i ++ seg l i j := by
  rw [seg]
  have := (List.take_append_drop i (l.take j)).symm
  rwa [List.take_take, Nat.min_eq_left h] at this
theorem totalB_seg (l : List ByteArray) {i j : Nat} (h : i ≤ j) : totalB (l.take j) = totalB (l.take i) + totalB (seg l i j) := by
  rw [take_seg l h, totalB_append]
theorem seg_le (l : List ByteArray) (i j : Nat) : totalB (seg l i j) ≤ totalB l := by
  have h1 := totalB_append ((l.take j).take i) (seg l i j)
  rw [seg, List.take_append_drop] at h1
  have := totalB_take_le l j
  unfold seg; omega
theorem take_succ_total (l : List ByteArray) (k : Nat) : totalB (l.take (k + 1)) = totalB (l.take k) + (l.getD k ByteArray.empty).size := by
  rw [List.take_add_one, totalB_append]
  rcases Nat.lt_or_ge k l.length with h | h
  · rw [List.getElem?_eq_getElem h]; simp [totalB, h]
  · rw [List.getElem?_eq_none h]; simp [totalB, h]

/-- The edits at these pairs, from places la, lb on. -/
def edsF (x y : List ByteArray) : Nat → Nat → List (Nat × Nat) → List Ed
  | _, _, [] => []
  | la, lb, (pa, pb) :: l =>
    (if totalB (x.take la) < totalB (x.take pa) ∨ joinB (seg y lb pb) ≠ ByteArray.empty then [⟨totalB (x.take la), totalB (x.take pa), joinB (seg y lb pb)⟩] else []) ++ edsF x y (pa + 1) (pb + 1) l
theorem edsF_len (x y : List ByteArray) : ∀ (l : List (Nat × Nat)) (la lb : Nat), (edsF x y la lb l).length ≤ l.length
  | [], _, _ => by simp [edsF]
  | p :: l, la, lb => by
    have := edsF_len x y l (p.1 + 1) (p.2 + 1)
    unfold edsF
    rw [List.length_append, List.length_cons]
    split <;> simp <;> omega

/-- Pairs in order, within what is there. -/
def Inc (n m : Nat) : Nat → Nat → List (Nat × Nat) → Prop
  | _, _, [] => True
  | la, lb, (pa, pb) :: l => la ≤ pa ∧ lb ≤ pb ∧ pa ≤ n ∧ pb ≤ m ∧ Inc n m (pa + 1) (pb + 1) l
def Inc2 (ha hb : Nat) : Nat → Nat → List (Nat × Nat) → Prop
  | la, lb, [] => la ≤ ha ∧ lb ≤ hb
  | la, lb, (pa, pb) :: l => la ≤ pa ∧ lb ≤ pb ∧ pa < ha ∧ pb < hb ∧ Inc2 ha hb (pa + 1) (pb + 1) l
theorem Inc2.le {ha hb : Nat} : ∀ {l : List (Nat × Nat)} {la lb : Nat}, Inc2 ha hb la lb l → la ≤ ha ∧ lb ≤ hb
  | [], _, _, h => h
  | (pa, pb) :: l, _, _, ⟨h1, h2, h3, h4, _⟩ => ⟨by omega, by omega⟩
theorem Inc2.more {ha hb ha' hb' : Nat} (h1 : ha ≤ ha') (h2 : hb ≤ hb') : ∀ {l : List (Nat × Nat)} {la lb : Nat}, Inc2 ha hb la lb l → Inc2 ha' hb' la lb l
  | [], _, _, h => ⟨by have := h.1; omega, by have := h.2; omega⟩
  | (pa, pb) :: l, _, _, ⟨a1, a2, a3, a4, a5⟩ => ⟨a1, a2, by omega, by omega, Inc2.more h1 h2 a5⟩
theorem Inc2.less {ha hb la' lb' : Nat} : ∀ {l : List (Nat × Nat)} {la lb : Nat}, Inc2 ha hb la lb l → la' ≤ la → lb' ≤ lb → Inc2 ha hb la' lb' l
  | [], _, _, h, h1, h2 => ⟨by have := h.1; omega, by have := h.2; omega⟩
  | (pa, pb) :: l, _, _, ⟨a1, a2, a3, a4, a5⟩, h1, h2 => ⟨by omega, by omega, a3, a4, a5⟩
theorem Inc2.append {ma mb ha hb : Nat} (hma : ma ≤ ha) (hmb : mb ≤ hb) : ∀ {l l2 : List (Nat × Nat)} {la lb : Nat}, Inc2 ma mb la lb l → Inc2 ha hb ma mb l2 → Inc2 ha hb la lb (l ++ l2)
  | [], _, _, _, h, h2 => h2.less h.1 h.2
  | (pa, pb) :: l, _, _, _, ⟨a1, a2, a3, a4, a5⟩, h2 => ⟨a1, a2, by omega, by omega, Inc2.append hma hmb a5 h2⟩
theorem Inc2.inc {n m ha hb : Nat} (h1 : ha ≤ n) (h2 : hb ≤ m) : ∀ {l : List (Nat × Nat)} {la lb : Nat}, Inc2 ha hb la lb l → Inc n m la lb (l ++ [(ha, hb)])
  | [], _, _, h => ⟨h.1, h.2, h1, h2, trivial⟩
  | (pa, pb) :: l, _, _, ⟨a1, a2, a3, a4, a5⟩ => ⟨a1, a2, by omega, by omega, Inc2.inc h1 h2 a5⟩

theorem indexF_get (x : ByteArray) : ∀ (b : List ByteArray) (k : Nat), 0 ≤ indexF x b k → ∃ q : Nat, indexF x b k = ((k + q : Nat) : Int) ∧ b[q]? = some x
  | [], k, h => by simp [indexF] at h
  | y :: l, k, h => by
    unfold indexF at h ⊢
    split at h
    · rename_i he
      rw [if_pos he]
      exact ⟨0, by simp, by simp [he]⟩
    · rename_i he
      rw [if_neg he]
      obtain ⟨q, h1, h2⟩ := indexF_get x l (k + 1) h
      refine ⟨q + 1, ?_, by simpa using h2⟩
      rw [show ((k : Int) + 1) = ((k + 1 : Nat) : Int) by omega, h1]
      omega
theorem commonF_inc : ∀ (n : Nat) (a b : List ByteArray) (i j : Nat), Inc2 (i + a.length) (j + b.length) i j (commonF n a b i j)
  | 0, a, b, i, j => ⟨by omega, by omega⟩
  | n + 1, a, b, i, j => by
    unfold commonF
    split
    · exact ⟨by omega, by omega⟩
    · split
      · rename_i h1
        split
        · rename_i h
          obtain ⟨q, hq, hb⟩ := indexF_get (a.getD 0 ByteArray.empty) b 0 h
          have hlt := (List.getElem?_eq_some_iff.1 hb).1
          have hq' : (indexF (a.getD 0 ByteArray.empty) b 0).toNat = q := by
            have : indexF (a.getD 0 ByteArray.empty) b ((0 : Nat) : Int) = ((0 + q : Nat) : Int) := hq
            rw [show ((0 : Nat) : Int) = (0 : Int) from rfl] at this
            omega
          rw [hq']
          exact ⟨by omega, by omega, by omega, by omega, by omega, by omega⟩
        · exact ⟨by omega, by omega⟩
      · have hB := bestF_lt (sumF a b) (b.length + 1)
        obtain ⟨B, hBe⟩ : ∃ B, B = bestF (sumF a b) (b.length + 1) := ⟨_, rfl⟩
        rw [← hBe] at hB ⊢
        have h1 := commonF_inc n (a.take (a.length / 2)) (b.take B) i j
        have h2 := commonF_inc n (a.drop (a.length / 2)) (b.drop B) (i + a.length / 2) (j + B)
        rw [List.length_take, List.length_take, Nat.min_eq_left (by omega), Nat.min_eq_left (by omega)] at h1
        rw [List.length_drop, List.length_drop, show i + a.length / 2 + (a.length - a.length / 2) = i + a.length by omega, show j + B + (b.length - B) = j + b.length by omega] at h2
        exact h1.append (by omega) (by omega) h2

/-- The pairs of Diff. -/
def startP (x y : List ByteArray) : Nat := preLen x y
def endP (x y : List ByteArray) : Nat := preLen (x.drop (startP x y)).reverse (y.drop (startP x y)).reverse
def pairsP (x y : List ByteArray) : List (Nat × Nat) :=
  commonF x.length (seg x (startP x y) (x.length - endP x y)) (seg y (startP x y) (y.length - endP x y)) (startP x y) (startP x y) ++ [(x.length - endP x y, y.length - endP x y)]
def diffL (x y : List ByteArray) : List Ed := edsF x y (startP x y) (startP x y) (pairsP x y)
def diffP (s t : ByteArray) : List Ed := diffL (linesP s) (linesP t)

theorem ends_le (x y : List ByteArray) : startP x y + endP x y ≤ x.length ∧ startP x y + endP x y ≤ y.length := by
  have h1 := preLen_le x y
  have h2 := preLen_le (x.drop (startP x y)).reverse (y.drop (startP x y)).reverse
  rw [List.length_reverse, List.length_reverse, List.length_drop, List.length_drop] at h2
  unfold endP
  unfold startP at h2 ⊢
  omega
theorem pairsP_inc (x y : List ByteArray) : Inc x.length y.length (startP x y) (startP x y) (pairsP x y) := by
  have h := ends_le x y
  have h1 := commonF_inc x.length (seg x (startP x y) (x.length - endP x y)) (seg y (startP x y) (y.length - endP x y)) (startP x y) (startP x y)
  rw [seg_len x (by omega) (by omega), seg_len y (by omega) (by omega), show startP x y + (x.length - endP x y - startP x y) = x.length - endP x y by omega, show startP x y + (y.length - endP x y - startP x y) = y.length - endP x y by omega] at h1
  exact h1.inc (by omega) (by omega)
theorem pairsP_len (x y : List ByteArray) : (pairsP x y).length ≤ x.length + 1 := by
  have h := ends_le x y
  have := commonF_len x.length (seg x (startP x y) (x.length - endP x y)) (seg y (startP x y) (y.length - endP x y)) (startP x y) (startP x y)
  rw [seg_len x (by omega) (by omega)] at this
  unfold pairsP
  rw [List.length_append, List.length_cons, List.length_nil]
  omega
end Go.Proofs.Ytbfgnafpianliaa
