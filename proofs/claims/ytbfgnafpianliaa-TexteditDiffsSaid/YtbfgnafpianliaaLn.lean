/- Lines and its reference. -/
import Derived.Test.YtbfgnafpianliaaSm
import Derived.Laws.RangeAny
import Derived.Lib.OthersKept
namespace Go.Proofs.Ytbfgnafpianliaa
open Go.RowKit

/-- The value is a slice of strings that reads as this list. -/
def Strs (w : World) (B : Nat) (v : Value) (xs : List ByteArray) : Prop := Sl w B v (xs.map .string)
theorem Strs.same {w w' : World} {B : Nat} {v : Value} {xs : List ByteArray} (h : Strs w B v xs) (hs : Same B w w') : Strs w' B v xs := Sl.same h hs
theorem Strs.more {w : World} {B B' : Nat} {v : Value} {xs : List ByteArray} (h : Strs w B v xs) (hB : B ≤ B') : Strs w B' v xs := Sl.more h hB
theorem Strs.parts {w : World} {B : Nat} {v : Value} {xs : List ByteArray} (h : Strs w B v xs) : ∃ A c, v = .slice A xs.length c ∧ xs.length ≤ c ∧ c ≤ maxLen ∧
    ∀ i x, xs[i]? = some x → ∃ ad, A = some ad ∧ ad.block < B ∧ w.cell? (ad.add i) = some (.string x) := by
  obtain ⟨A, c, e, h1, h2, h3⟩ := h
  rw [List.length_map] at e h1
  exact ⟨A, c, e, h1, h2, fun i x hx => h3 i _ (by rw [List.getElem?_map, hx]; rfl)⟩

/-- The lines of s from offset fr on, of which the bytes from fr up to i hold no line feed; m bytes are left. -/
def linesF (s : ByteArray) : Nat → Nat → Nat → List ByteArray
  | 0, fr, _ => if fr < s.size then [s.extract fr s.size] else []
  | m + 1, fr, i => if s.get! i = 10 then s.extract fr (i + 1) :: linesF s m (i + 1) (i + 1) else linesF s m fr (i + 1)
def linesP (s : ByteArray) : List ByteArray := linesF s s.size 0 0

theorem linesF_skip (s : ByteArray) (fr : Nat) : ∀ (d i : Nat), (∀ j, i ≤ j → j < i + d → s.get! j ≠ 10) → i + d ≤ s.size → linesF s (s.size - i) fr i = linesF s (s.size - (i + d)) fr (i + d)
  | 0, _, _, _ => rfl
  | d + 1, i, h, hs => by
    have e : s.size - i = (s.size - (i + 1)) + 1 := by omega
    rw [e, linesF, if_neg (h i (Nat.le_refl _) (by omega)), linesF_skip s fr d (i + 1) (fun j h1 h2 => h j (by omega) (by omega)) (by omega)]
    rw [show i + 1 + d = i + (d + 1) by omega]
theorem linesF_hit (s : ByteArray) (fr i : Nat) (hi : i < s.size) (h : s.get! i = 10) : linesF s (s.size - i) fr i = s.extract fr (i + 1) :: linesF s (s.size - (i + 1)) (i + 1) (i + 1) := by
  have e : s.size - i = (s.size - (i + 1)) + 1 := by omega
  rw [e, linesF, if_pos h]
theorem linesF_miss (s : ByteArray) (fr i : Nat) (hi : i < s.size) (h : s.get! i ≠ 10) : linesF s (s.size - i) fr i = linesF s (s.size - (i + 1)) fr (i + 1) := by
  have e : s.size - i = (s.size - (i + 1)) + 1 := by omega
  rw [e, linesF, if_neg h]
theorem linesF_end (s : ByteArray) (fr i : Nat) (hi : ¬ i < s.size) : linesF s (s.size - i) fr i = if fr < s.size then [s.extract fr s.size] else [] := by
  rw [show s.size - i = 0 by omega, linesF]

theorem get_eq (s : ByteArray) (i : Nat) (h : i < s.size) : s.get! i = s[i] := by
  have := get_at s i h
  simpa using this

/-- A rune that is not the line feed covers no line feed. -/
theorem decode_skip (s : ByteArray) (pos : Nat) (h : pos < s.size) (hn : s.get! pos ≠ 10) :
    (Utf8.decode s pos).1 ≠ 10 ∧ 1 ≤ (Utf8.decode s pos).2 ∧ pos + (Utf8.decode s pos).2 ≤ s.size ∧ ∀ j, pos ≤ j → j < pos + (Utf8.decode s pos).2 → s.get! j ≠ 10 := by
  by_cases ha : (s[pos]'h).toNat < 128
  · rw [decode_ascii s pos h ha]
    refine ⟨fun e => hn ?_, Nat.le_refl _, h, fun j h1 h2 => ?_⟩
    · rw [get_eq s pos h]
      exact UInt8.toNat_inj.1 e
    · obtain rfl : j = pos := by simp at h2; omega
      exact hn
  · have hh := decode_high s pos h (by omega)
    refine ⟨by omega, hh.2, ?_⟩
    have key : ∀ k, pos + k < s.size → (s.get! (pos + k)).toNat / 64 = 2 → s.get! (pos + k) ≠ 10 := fun k _ hk e => by rw [e] at hk; simp at hk
    have one : pos + 1 ≤ s.size ∧ ∀ j, pos ≤ j → j < pos + 1 → s.get! j ≠ 10 := ⟨h, fun j h1 h2 => by rw [show j = pos by omega]; exact hn⟩
    have e : s.get! (pos + 0) = s[pos]'h := get_at s pos h
    simp only [Utf8.decode, e, ha, if_false]
    split
    · rename_i hc
      simp at hc
      split
      · refine ⟨by have := hc.2.1; omega, fun j h1 h2 => ?_⟩
        have : j = pos ∨ j = pos + 1 := by simp at h2; omega
        rcases this with rfl | rfl
        · exact hn
        · exact key 1 hc.2.1 hc.2.2
      · exact one
    · split
      · rename_i hc
        simp at hc
        split
        · refine ⟨by have := hc.2.1; omega, fun j h1 h2 => ?_⟩
          have : j = pos ∨ j = pos + 1 ∨ j = pos + 2 := by simp at h2; omega
          rcases this with rfl | rfl | rfl
          · exact hn
          · exact key 1 hc.1.2.1 hc.1.2.2
          · exact key 2 hc.2.1 hc.2.2
        · exact one
      · split
        · rename_i hc
          simp at hc
          split
          · refine ⟨by have := hc.2.1; omega, fun j h1 h2 => ?_⟩
            have : j = pos ∨ j = pos + 1 ∨ j = pos + 2 ∨ j = pos + 3 := by simp at h2; omega
            rcases this with rfl | rfl | rfl | rfl
            · exact hn
            · exact key 1 hc.1.1.2.1 hc.1.1.2.2
            · exact key 2 hc.1.2.1 hc.1.2.2
            · exact key 3 hc.2.1 hc.2.2
          · exact one
        · exact one
end Go.Proofs.Ytbfgnafpianliaa
