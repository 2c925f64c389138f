/- Where Shift leads in an edited text. -/
import Derived.Test.YtbfgnafpianliaaBackP
namespace Go.Proofs.Ytbfgnafpianliaa
open Go.RowKit

/-- The law's inner loop: whether the byte is kept, and the text of the last edit that covers it. -/
def covL (at' : Int) : Bool × ByteArray → List Ed → Bool × ByteArray
  | st, [] => st
  | st, e :: l => if e.fr ≤ at' ∧ at' < e.to then covL at' (false, e.tx) l else covL at' st l

theorem cov_behind {n at' : Int} : ∀ {l : List Ed} {p : Int} (st : Bool × ByteArray), Chain n p l → at' < p → covL at' st l = st
  | [], _, _, _, _ => rfl
  | e :: l, p, st, ⟨h1, h2, h3, h4⟩, h => by
    unfold covL
    rw [if_neg (by omega)]
    exact cov_behind st h4 (by omega)
theorem shift_behind {n at' : Int} : ∀ {l : List Ed} {p : Int} (C : Int), Chain n p l → at' < p → shiftL at' C l = at' + C
  | [], _, _, _, _ => rfl
  | e :: l, p, C, ⟨h1, h2, h3, h4⟩, h => by
    unfold shiftL
    rw [if_neg (by omega), if_neg (by omega)]
    exact shift_behind C h4 (by omega)

theorem at_mid (a : List UInt8) (s : List UInt8) (c : List UInt8) {p f i : Nat} (hp : p ≤ i) (hf : i < f) (hs : f ≤ s.length) : (a ++ (s.take f).drop p ++ c)[a.length + (i - p)]? = s[i]? := by
  have hl : ((s.take f).drop p).length = f - p := by rw [List.length_drop, List.length_take]; omega
  rw [List.append_assoc, List.getElem?_append_right (by omega), show a.length + (i - p) - a.length = i - p by omega, List.getElem?_append_left (by omega), List.getElem?_drop, List.getElem?_take, if_pos (by omega)]
  congr 1
  omega

theorem keeps_heart (s : ByteArray) (i : Nat) (hi : i ≤ s.size) : ∀ (l : List Ed) (out : ByteArray) (p : Nat) (C : Int), Chain s.size p l → p ≤ i → (out.size : Int) = p + C →
    ∃ q : Nat, shiftL i C l = q ∧
      ((covL i (true, ByteArray.empty) l).1 = true → (i < s.size → q < (joinP s out p l).size ∧ (joinP s out p l).data.toList[q]? = s.data.toList[i]?) ∧ (i = s.size → q = (joinP s out p l).size)) ∧
      ((covL i (true, ByteArray.empty) l).1 = false → q + (covL i (true, ByteArray.empty) l).2.size ≤ (joinP s out p l).size ∧
        (joinP s out p l).extract q (q + (covL i (true, ByteArray.empty) l).2.size) = (covL i (true, ByteArray.empty) l).2)
  | [], out, p, C, h, hp, hq => by
    simp only [Chain] at h
    refine ⟨out.size + (i - p), by simp only [shiftL]; omega, fun _ => ?_, fun h => by simp [covL] at h⟩
    simp only [joinP, size_append, ext_size s (Nat.le_refl _)]
    refine ⟨fun hlt => ⟨by omega, ?_⟩, fun he => by omega⟩
    rw [append_data, data_extract]
    have := at_mid out.data.toList s.data.toList [] hp hlt (by rw [size_data]; exact Nat.le_refl _)
    rw [List.append_nil, size_data] at this
    exact this
  | e :: l, out, p, C, h, hp, hq => by
    obtain ⟨h1, h2, h3, h4⟩ := h
    obtain ⟨t, ht⟩ := ofNat_of (show 0 ≤ e.to by omega)
    obtain ⟨f, hf⟩ := ofNat_of (show 0 ≤ e.fr by omega)
    rw [ht] at h2 h3 h4
    rw [hf] at h1 h2
    obtain ⟨out', ho⟩ : ∃ o, o = out ++ s.extract p f ++ e.tx := ⟨_, rfl⟩
    have hs' : out'.size = out.size + (f - p) + e.tx.size := by rw [ho, size_append, size_append, ext_size s (by omega)]
    have hq' : (out'.size : Int) = t + (C + chg e) := by rw [hs']; unfold chg; rw [ht, hf]; omega
    have hT : joinP s out p (e :: l) = joinP s out' t l := by simp only [joinP]; rw [ht, hf, Int.toNat_natCast, Int.toNat_natCast, ho]
    rw [hT]
    by_cases c1 : t ≤ i
    · have e1 : shiftL i C (e :: l) = shiftL i (C + chg e) l := by simp only [shiftL]; rw [ht, if_pos (by omega)]
      have e2 : covL i (true, ByteArray.empty) (e :: l) = covL i (true, ByteArray.empty) l := by simp only [covL]; rw [ht, if_neg (by omega)]
      rw [e1, e2]
      exact keeps_heart s i hi l out' t (C + chg e) h4 c1 hq'
    · have hjo : joinP s out' t l = out ++ s.extract p f ++ (e.tx ++ joinP s ByteArray.empty t l) := by
        rw [joinP_out, ho]; simp only [bytes_assoc]
      by_cases c2 : f ≤ i
      · have e1 : shiftL i C (e :: l) = e.fr + C := by simp only [shiftL]; rw [ht, hf, if_neg (by omega), if_pos (by omega)]
        have e2 : covL i (true, ByteArray.empty) (e :: l) = (false, e.tx) := by
          simp only [covL]; rw [ht, hf, if_pos (by omega)]
          exact cov_behind _ h4 (by omega)
        rw [e1, e2]
        refine ⟨out.size + (f - p), by rw [hf]; omega, (fun h => by cases h), fun _ => ⟨?_, ?_⟩⟩
        · rw [hjo, size_append, size_append, size_append, ext_size s (by omega)]
          show _ + e.tx.size ≤ _
          omega
        · have := ext_mid (out ++ s.extract p f) e.tx (joinP s ByteArray.empty t l)
          rw [size_append, ext_size s (by omega)] at this
          rw [hjo, ← bytes_assoc]
          exact this
      · have e1 : shiftL i C (e :: l) = i + C := by
          simp only [shiftL]; rw [ht, hf, if_neg (by omega), if_neg (by omega)]
          exact shift_behind C h4 (by omega)
        have e2 : covL i (true, ByteArray.empty) (e :: l) = (true, ByteArray.empty) := by
          simp only [covL]; rw [ht, hf, if_neg (by omega)]
          exact cov_behind _ h4 (by omega)
        rw [e1, e2]
        refine ⟨out.size + (i - p), by omega, fun _ => ⟨fun hlt => ⟨?_, ?_⟩, fun he => by omega⟩, (fun h => by cases h)⟩
        · rw [hjo, size_append, size_append, ext_size s (by omega)]; omega
        · rw [hjo, append_data, append_data, data_extract]
          have := at_mid out.data.toList s.data.toList (e.tx ++ joinP s ByteArray.empty t l).data.toList hp (show i < f by omega) (by rw [size_data]; omega)
          rw [size_data] at this
          exact this
theorem possible_chain {n : Int} : ∀ {l : List Ed} {p : Int}, Chain n p l → possibleP p l = true
  | [], _, _ => rfl
  | e :: l, p, ⟨h1, h2, h3, h4⟩ => by
    unfold possibleP
    rw [if_neg (by omega)]
    exact possible_chain h4
end Go.Proofs.Ytbfgnafpianliaa
