/- The lines of a text: laid together they are the text, and a run of lines has just these lines. -/
import Derived.Test.YtbfgnafpianliaaBackP
namespace Go.Proofs.Ytbfgnafpianliaa
open Go.RowKit

theorem gget (s : ByteArray) (i : Nat) : s.get! i = (s.data.toList[i]?).getD 0 := by
  cases s with
  | mk d =>
    show d[i]! = _
    rw [Array.getElem?_toList, Array.getElem!_eq_getD, Array.getD_eq_getD_getElem?]
    rfl
theorem get_ext (s : ByteArray) {i j k : Nat} (h : i + k < j) : (s.extract i j).get! k = s.get! (i + k) := by
  rw [gget, gget, data_extract, List.getElem?_drop, List.getElem?_take, if_pos h]
theorem get_left (a b : ByteArray) {k : Nat} (h : k < a.size) : (a ++ b).get! k = a.get! k := by
  rw [gget, gget, append_data, List.getElem?_append_left (by rw [size_data]; exact h)]
theorem get_right (a b : ByteArray) (k : Nat) : (a ++ b).get! (a.size + k) = b.get! k := by
  rw [gget, gget, append_data, List.getElem?_append_right (by rw [size_data]; omega), size_data]
  congr 2; omega

def isLine (z : ByteArray) : Prop := 1 ≤ z.size ∧ ∀ j, j + 1 < z.size → z.get! j ≠ 10
def endsNl (z : ByteArray) : Prop := z.get! (z.size - 1) = 10
def GoodL : List ByteArray → Prop
  | [] => True
  | z :: l => isLine z ∧ (l ≠ [] → endsNl z) ∧ GoodL l

theorem linesF_good (s : ByteArray) : ∀ (m fr i : Nat), i + m = s.size → fr ≤ i → (∀ j, fr ≤ j → j < i → s.get! j ≠ 10) →
    joinB (linesF s m fr i) = s.extract fr s.size ∧ GoodL (linesF s m fr i)
  | 0, fr, i, hm, hf, hn => by
    unfold linesF
    by_cases h : fr < s.size
    · rw [if_pos h]
      refine ⟨by simp only [joinB, append_empty], ⟨by rw [ext_size s (Nat.le_refl _)]; omega, fun j hj => ?_⟩, (fun h => absurd rfl h), trivial⟩
      rw [ext_size s (Nat.le_refl _)] at hj
      rw [get_ext s (by omega)]
      exact hn _ (by omega) (by omega)
    · rw [if_neg h]
      refine ⟨?_, trivial⟩
      apply bytes_ext
      rw [data_extract, List.drop_of_length_le (by rw [List.length_take, size_data]; omega)]; rfl
  | m + 1, fr, i, hm, hf, hn => by
    unfold linesF
    by_cases h : s.get! i = 10
    · rw [if_pos h]
      obtain ⟨h1, h2⟩ := linesF_good s m (i + 1) (i + 1) (by omega) (Nat.le_refl _) (fun j a b => by omega)
      refine ⟨by simp only [joinB]; rw [h1, ext_join s (by omega) (by omega)], ⟨by rw [ext_size s (by omega)]; omega, fun j hj => ?_⟩, fun _ => ?_, h2⟩
      · rw [ext_size s (by omega)] at hj
        rw [get_ext s (by omega)]
        exact hn _ (by omega) (by omega)
      · unfold endsNl
        rw [ext_size s (by omega), get_ext s (by omega), show fr + (i + 1 - fr - 1) = i by omega]
        exact h
    · rw [if_neg h]
      exact linesF_good s m fr (i + 1) (by omega) (by omega) (fun j a b => by
        rcases Nat.lt_or_ge j i with c | c
        · exact hn j a c
        · rw [show j = i by omega]; exact h)
theorem lines_join (s : ByteArray) : joinB (linesP s) = s := by
  have := (linesF_good s s.size 0 0 (by omega) (Nat.le_refl _) (fun j a b => by omega)).1
  rw [ext_all] at this
  exact this
theorem lines_good (s : ByteArray) : GoodL (linesP s) := (linesF_good s s.size 0 0 (by omega) (Nat.le_refl _) (fun j a b => by omega)).2

theorem lines_of_F : ∀ (xs : List ByteArray) (pre : ByteArray), GoodL xs → linesF (pre ++ joinB xs) ((pre ++ joinB xs).size - pre.size) pre.size pre.size = xs
  | [], pre, _ => by
    have e : (pre ++ joinB []).size = pre.size := by simp [joinB]
    rw [e, Nat.sub_self, linesF, if_neg (by rw [e]; exact Nat.lt_irrefl _)]
  | z :: l, pre, ⟨⟨hz1, hz2⟩, hz3, hz4⟩ => by
    obtain ⟨S, hS⟩ : ∃ S, S = pre ++ joinB (z :: l) := ⟨_, rfl⟩
    have hS2 : S = pre ++ (z ++ joinB l) := hS
    have hSs : S.size = pre.size + (z.size + (joinB l).size) := by rw [hS2, size_append, size_append]
    have hb : ∀ j, j < z.size → S.get! (pre.size + j) = z.get! j := fun j hj => by rw [hS2, get_right, get_left _ _ hj]
    rw [← hS]
    rw [linesF_skip S pre.size (z.size - 1) pre.size (fun j h1 h2 => by
      have := hb (j - pre.size) (by omega)
      rw [show pre.size + (j - pre.size) = j by omega] at this
      rw [this]; exact hz2 _ (by omega)) (by omega)]
    have hlast : S.get! (pre.size + (z.size - 1)) = z.get! (z.size - 1) := hb _ (by omega)
    have hzx : S.extract pre.size (pre.size + z.size) = z := by
      have := ext_mid pre z (joinB l)
      rw [bytes_assoc, ← hS2] at this
      exact this
    by_cases he : endsNl z
    · rw [linesF_hit S pre.size _ (by omega) (by rw [hlast]; exact he), show pre.size + (z.size - 1) + 1 = pre.size + z.size by omega, hzx]
      congr 1
      have ih := lines_of_F l (pre ++ z) hz4
      rw [bytes_assoc, ← hS2, size_append] at ih
      exact ih
    · have hl : l = [] := by
        cases l with
        | nil => rfl
        | cons a b => exact absurd (hz3 (by simp)) he
      subst hl
      have hj : (joinB ([] : List ByteArray)).size = 0 := rfl
      rw [hj] at hSs
      rw [linesF_miss S pre.size _ (by omega) (by rw [hlast]; exact he), linesF_end S pre.size _ (by omega), if_pos (by omega), show S.size = pre.size + z.size by omega, hzx]
theorem lines_of (xs : List ByteArray) (h : GoodL xs) : linesP (joinB xs) = xs := by
  have := lines_of_F xs ByteArray.empty h
  rw [empty_append] at this
  exact this

theorem GoodL.drop : ∀ {l : List ByteArray} (k : Nat), GoodL l → GoodL (l.drop k)
  | _, 0, h => h
  | [], _ + 1, _ => trivial
  | _ :: l, k + 1, ⟨_, _, h⟩ => GoodL.drop (l := l) k h
theorem GoodL.take : ∀ {l : List ByteArray} (k : Nat), GoodL l → GoodL (l.take k)
  | _, 0, _ => by simp [GoodL]
  | [], _ + 1, _ => by simp [GoodL]
  | z :: l, k + 1, ⟨h1, h2, h3⟩ => ⟨h1, fun hne => h2 (fun e => hne (by rw [e]; simp)), GoodL.take (l := l) k h3⟩
theorem GoodL.seg {l : List ByteArray} (h : GoodL l) (i j : Nat) : GoodL (seg l i j) := (h.take j).drop i
theorem GoodL.at_ : ∀ {l : List ByteArray}, GoodL l → ∀ (i : Nat) (z : ByteArray), l[i]? = some z → 1 ≤ z.size ∧ (i + 1 < l.length → endsNl z)
  | [], _, i, z, hz => by simp at hz
  | a :: l, ⟨h1, h2, h3⟩, 0, z, hz => by
    simp at hz; subst hz
    refine ⟨h1.1, fun hl => h2 (fun e => by subst e; simp at hl)⟩
  | a :: l, ⟨_, _, h3⟩, i + 1, z, hz => by
    have := GoodL.at_ h3 i z (by simpa using hz)
    exact ⟨this.1, fun hl => this.2 (by simp at hl; omega)⟩
end Go.Proofs.Ytbfgnafpianliaa
