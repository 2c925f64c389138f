/- What Invert returns changes an edited text back. -/
import Derived.Test.YtbfgnafpianliaaDp
namespace Go.Proofs.Ytbfgnafpianliaa
open Go.RowKit

theorem data_extract (s : ByteArray) (i j : Nat) : (s.extract i j).data.toList = (s.data.toList.take j).drop i := by
  rw [ByteArray.data_extract, Array.toList_extract, List.extract_eq_take_drop, List.drop_take]
theorem bytes_ext {a b : ByteArray} (h : a.data.toList = b.data.toList) : a = b := ByteArray.ext (Array.toList_inj.1 h)
theorem ext_mid (a b c : ByteArray) : (a ++ b ++ c).extract a.size (a.size + b.size) = b := by
  apply bytes_ext
  rw [data_extract, append_data, append_data]
  have h1 : (a.data.toList ++ b.data.toList).length = a.size + b.size := by rw [List.length_append, size_data, size_data]
  rw [List.take_append_of_le_length (by omega), List.take_of_length_le (by omega), List.drop_append_of_le_length (by rw [size_data]; exact Nat.le_refl _), List.drop_of_length_le (by rw [size_data]; exact Nat.le_refl _), List.nil_append]
theorem ext_end (a b : ByteArray) : (a ++ b).extract a.size (a ++ b).size = b := by
  have := ext_mid a b ByteArray.empty
  rw [append_empty] at this
  rw [size_append]; exact this
theorem ext_join (s : ByteArray) {i j k : Nat} (h1 : i ≤ j) (h2 : j ≤ k) : s.extract i j ++ s.extract j k = s.extract i k := by
  apply bytes_ext
  rw [append_data, data_extract, data_extract, data_extract]
  obtain ⟨l, hl⟩ : ∃ l, l = s.data.toList := ⟨_, rfl⟩
  rw [← hl]
  have e : l.take k = l.take j ++ (l.take k).drop j := by
    have := (List.take_append_drop j (l.take k)).symm
    rwa [List.take_take, Nat.min_eq_left h2] at this
  rcases Nat.lt_or_ge l.length i with hc | hc
  · rw [List.drop_of_length_le (l := l.take j) (by rw [List.length_take]; omega), List.drop_of_length_le (by rw [List.length_take]; omega), List.drop_of_length_le (by rw [List.length_take]; omega)]; rfl
  · conv => rhs; rw [e]
    rw [List.drop_append_of_le_length (by rw [List.length_take]; omega)]
theorem ext_size (s : ByteArray) {i j : Nat} (h2 : j ≤ s.size) : (s.extract i j).size = j - i := by simp [ByteArray.size_extract]; omega
theorem ext_all (s : ByteArray) : s.extract 0 s.size = s := by
  apply bytes_ext
  rw [data_extract, List.drop_zero, List.take_of_length_le (by rw [size_data]; exact Nat.le_refl _)]

theorem joinP_out (s : ByteArray) : ∀ (l : List Ed) (out : ByteArray) (p : Nat), joinP s out p l = out ++ joinP s ByteArray.empty p l
  | [], out, p => by simp only [joinP, empty_append]
  | e :: l, out, p => by
    simp only [joinP]
    rw [joinP_out s l (out ++ s.extract p e.fr.toNat ++ e.tx), joinP_out s l (ByteArray.empty ++ s.extract p e.fr.toNat ++ e.tx), empty_append]
    simp only [bytes_assoc]
theorem joinP_size (s : ByteArray) : ∀ (l : List Ed) (out : ByteArray) (p : Nat), Chain s.size p l → ((joinP s out p l).size : Int) = sizeP (out.size + (s.size - p)) l
  | [], out, p, h => by
    simp only [Chain] at h
    simp only [joinP, sizeP, size_append, ext_size s (Nat.le_refl _)]
    omega
  | e :: l, out, p, h => by
    obtain ⟨h1, h2, h3, h4⟩ := h
    obtain ⟨t, ht⟩ := ofNat_of (show 0 ≤ e.to by omega)
    obtain ⟨f, hf⟩ := ofNat_of (show 0 ≤ e.fr by omega)
    simp only [joinP, sizeP]
    rw [ht] at h2 h3 h4
    rw [hf] at h1 h2
    rw [ht, hf, Int.toNat_natCast, Int.toNat_natCast, joinP_size s l _ t h4]
    congr 1
    rw [size_append, size_append, ext_size s (by omega)]
    unfold chg
    omega

/-- The heart: from a place in the middle on. -/
theorem back_heart (s : ByteArray) : ∀ (l : List Ed) (out : ByteArray) (p : Nat) (C : Int), Chain s.size p l → (out.size : Int) = p + C →
    Chain (joinP s out p l).size out.size (invL s C l) ∧ (∀ acc, joinP (joinP s out p l) acc out.size (invL s C l) = acc ++ s.extract p s.size) ∧ (invL s C l).length = l.length
  | [], out, p, C, h, hq => by
    simp only [joinP, invL, Chain, List.length_nil, and_true]
    refine ⟨by rw [size_append]; omega, fun acc => by rw [ext_end]⟩
  | e :: l, out, p, C, h, hq => by
    obtain ⟨h1, h2, h3, h4⟩ := h
    obtain ⟨t, ht⟩ := ofNat_of (show 0 ≤ e.to by omega)
    obtain ⟨f, hf⟩ := ofNat_of (show 0 ≤ e.fr by omega)
    rw [ht] at h2 h3 h4
    rw [hf] at h1 h2
    obtain ⟨out', ho⟩ : ∃ o, o = out ++ s.extract p f ++ e.tx := ⟨_, rfl⟩
    have hs' : out'.size = out.size + (f - p) + e.tx.size := by rw [ho, size_append, size_append, ext_size s (by omega)]
    have hq' : (out'.size : Int) = t + (C + chg e) := by rw [hs']; unfold chg; rw [ht, hf]; omega
    obtain ⟨i1, i2, i3⟩ := back_heart s l out' t (C + chg e) h4 hq'
    have hT : joinP s out p (e :: l) = joinP s out' t l := by simp only [joinP]; rw [ht, hf, Int.toNat_natCast, Int.toNat_natCast, ho]
    rw [hT]
    obtain ⟨T, hTT⟩ : ∃ T, T = joinP s out' t l := ⟨_, rfl⟩
    rw [← hTT] at i1 i2 ⊢
    have hsz : out'.size ≤ T.size := by rw [hTT, joinP_out, size_append]; omega
    have hex : T.extract out.size (out.size + (f - p)) = s.extract p f := by
      have := ext_mid out (s.extract p f) (e.tx ++ joinP s ByteArray.empty t l)
      rw [ext_size s (by omega)] at this
      rw [hTT, joinP_out, ho]
      simp only [bytes_assoc] at this ⊢
      exact this
    have e1 : (f : Int) + C = ((out.size + (f - p) : Nat) : Int) := by omega
    have e2 : (f : Int) + C + e.tx.size = (out'.size : Int) := by rw [hs']; omega
    simp only [invL, Chain, hf, ht, List.length_cons]
    refine ⟨⟨by omega, by omega, by rw [e2]; omega, by rw [e2]; exact i1⟩, fun acc => ?_, by rw [i3]⟩
    simp only [joinP]
    rw [e2, e1, Int.toNat_natCast, Int.toNat_natCast, Int.toNat_natCast, Int.toNat_natCast, hex, i2]
    simp only [bytes_assoc]
    rw [ext_join s (by omega) (by omega), ext_join s (by omega) (by omega)]

theorem back_law (s : ByteArray) (es : List Ed) (h : Chain s.size 0 es) (hs : s.size ≤ 65536) :
    applyP (joinP s ByteArray.empty 0 es) (invL s 0 es) = (s, 0) ∧ (invL s 0 es).length = es.length := by
  obtain ⟨h1, h2, h3⟩ := back_heart s es ByteArray.empty 0 0 h rfl
  have h0 : (ByteArray.empty.size : Int) = 0 := rfl
  rw [h0] at h1
  have hj : joinP (joinP s ByteArray.empty 0 es) ByteArray.empty 0 (invL s 0 es) = s := by
    have := h2 ByteArray.empty
    rw [empty_append, ext_all] at this
    exact this
  refine ⟨?_, h3⟩
  have hz := joinP_size (joinP s ByteArray.empty 0 es) (invL s 0 es) ByteArray.empty 0 h1
  rw [hj, h0] at hz
  rw [applyP, if_neg (by rw [check_of_chain h1]; simp), if_neg (by
    have : ((joinP s ByteArray.empty 0 es).size : Int) = 0 + ((joinP s ByteArray.empty 0 es).size - ((0 : Nat) : Int)) := by omega
    rw [this, ← hz]; omega), hj]
theorem inv_tx (s : ByteArray) : ∀ (l : List Ed) (C : Int), ∀ e ∈ invL s C l, e.tx.size ≤ s.size
  | [], _, e, he => by cases he
  | a :: l, C, e, he => by
    simp only [invL, List.mem_cons] at he
    rcases he with rfl | he
    · simp [ByteArray.size_extract]; omega
    · exact inv_tx s l _ e he
end Go.Proofs.Ytbfgnafpianliaa
