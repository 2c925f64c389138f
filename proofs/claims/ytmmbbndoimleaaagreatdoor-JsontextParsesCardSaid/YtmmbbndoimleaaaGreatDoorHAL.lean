/- escape of the reference's reader; str of the reference's reader; digits of the reference's reader; A number as the reference reads it, plain; short, quoted, line of package jsontext; quoted of package jsontext. -/
import Derived.Test.YtmmbbndoimleaaaGreatDoorHAK
import Derived.Test.YtmmbbndoimleaaaGreatDoorHAF
import Derived.Test.YtmmbbndoimleaaaGreatDoorHAJ

/- escape of the reference's reader. -/
namespace Go.Proofs.YtmmbbndoimleaaaGreatDoor
open Go.RowKit

def EscPost (g : Nat) (S : ByteArray) (w : World) (r : Except Flt (Nat × Nat)) (e : Ending) (w' : World) : Prop :=
  match r with
  | .ok (c, j) => e = .returned (.int .u8 c) ∧ Rdr w' g S j (0, 0) ∧ Px g w w'
  | .error f => ∃ (c q : Nat), c < 256 ∧ q ≤ S.size ∧ e = .returned (.int .u8 c) ∧ Rdr w' g S q f ∧ Px g w w'
def escLet : List Nat := [34, 92, 47, 98, 116, 110, 102, 114]
def uniH (j a : Nat) : Option Nat → Except Flt (Nat × Nat)
  | none => .error (19, ((j + 1 : Nat) : Int))
  | some b => .ok (16 * a + b, j + 2)
def uniG (S : ByteArray) (j : Nat) : Option Nat → Except Flt (Nat × Nat)
  | none => .error (19, (j : Int))
  | some a => uniH j a (hexV (nx S (j + 1)))
def uniF (S : ByteArray) : Except Flt Nat → Except Flt (Nat × Nat)
  | .error f => .error f
  | .ok j => uniG S j (hexV (nx S j))
theorem word_err {S : ByteArray} : ∀ {l : List UInt8} {i : Nat} {f : Flt}, wordF S l i = .error f → f.1 ≠ 0
  | [], i, f, h => by cases h
  | c :: l, i, f, h => by
    unfold wordF at h
    split at h
    · exact word_err h
    · injection h with h; rw [← h]; exact (show (19 : Int) ≠ 0 by decide)
theorem hex_lt {c a : Nat} (h : hexV c = some a) : a < 16 := by
  unfold hexV at h
  split at h
  · rename_i hd; have := dig_bounds hd; injection h with h; omega
  split at h
  · injection h with h; omega
  split at h
  · injection h with h; omega
  · cases h

set_option maxRecDepth 20000 in
set_option maxHeartbeats 4000000 in
theorem rescape_run (S : ByteArray) (g k : Nat) (w : World) (h : Rdr w g S (k + 1) (0, 0)) (hi : k + 1 ≤ S.size) (hS : S.size ≤ 1000000000) :
    Calls Tryz.prog 72 #[.pointer (some ⟨g, 0, none⟩)] w (EscPost g S w (escF S k)) := by
  have HY := hide fun c V (h : Rdr V g S (k + 1) (0, 0)) => is_yes S g (k + 1) c (0, 0) V h (by omega)
  have HN := hide fun c V (h : Rdr V g S (k + 1) (0, 0)) => is_no S g (k + 1) c (0, 0) V h (by omega)
  have HF := hide fun V (h : Rdr V g S (k + 1) (0, 0)) => rfail_run S g (k + 1) (0, 0) 19 ((k + 1 : Nat) : Int) V h
  obtain ⟨r, hr⟩ : ∃ r, r = escF S k := ⟨_, rfl⟩
  rw [← hr]
  have HR := Lib.hid hr
  obtain ⟨x, hx⟩ : ∃ x, x = nx S (k + 1) := ⟨_, rfl⟩
  have HX := Lib.hid hx
  have hx2 := nx_lt S (k + 1)
  rw [← hx] at hx2
  have hin : x ≠ 0 → k + 1 < S.size := fun h => nx_in (by rw [← hx]; exact h)
  have H0 := hide (show Rdr w g S (k + 1) (0, 0) ∧ Px g w w ∧ ∀ u ∈ escLet.take 0, x ≠ u from ⟨h, Px.refl, by simp⟩)
  have HIN := hide hin
  clear hr hx h hin
  go_enter Tryz.func72, Tryz.ntmps72
  go_wp2_with fail
  go_loopw [5] (fun mv wr => ∃ m : Nat, mv = .int .i64 m ∧ m ≤ 8 ∧ Hid (Rdr wr g S (k + 1) (0, 0) ∧ Px g w wr ∧ ∀ u ∈ escLet.take m, x ≠ u)) (fun mv _ => 8 - (intOf mv).toNat)
  case atStart => exact ⟨0, rfl, Nat.zero_le _, H0⟩
  case round =>
    clear H0
    obtain ⟨m, rfl, hm, hR⟩ := hrel
    have hmm : m = 0 ∨ m = 1 ∨ m = 2 ∨ m = 3 ∨ m = 4 ∨ m = 5 ∨ m = 6 ∨ m = 7 ∨ m = 8 := by omega
    rcases hmm with rfl | rfl | rfl | rfl | rfl | rfl | rfl | rfl | rfl
    · by_cases hq : x = 34
      · have HQ := Lib.hid (show nx S (k + 1) = 34 by rw [← HX.out]; exact hq)
        have HE := hide (show r = .ok (34, k + 2) by rw [HR.out]; unfold escF; rw [HQ.out]; rfl)
        have HIN1 := hide (HIN.out (by rw [hq]; decide))
        clear hq hm
        go_wp2_with fail
        refine (HY.out 34 _ hR.out.1 (by decide) (by first | trivial | rfl) HQ.out).mono ?_; rintro e w1 ⟨rfl, hr1, hx1⟩
        have HR1 := hide hr1
        have HX1 := hide (hR.out.2.1.trans hx1)
        clear hr1 hx1 hR
        go_wp2_with fail
        go_ret
        rw [HE.out]
        exact ⟨rfl, HR1.out, HX1.out⟩
      · have HNQ := hide (show nx S (k + 1) ≠ 34 by rw [← HX.out]; exact hq)
        have HAL := hide (show ∀ u ∈ escLet.take 1, x ≠ u from fun u hu => by
          have hu2 : u ∈ escLet.take 0 ∨ u = 34 := by simpa [escLet, or_assoc] using hu
          rcases hu2 with h | h
          · exact hR.out.2.2 u h
          · rw [h]; exact hq)
        clear hq
        go_wp2_with fail
        refine (HN.out 34 _ hR.out.1 (by decide) (.inr HNQ.out)).mono ?_; rintro e w1 ⟨rfl, hr1, hx1⟩
        have HR1 := hide hr1
        have HX1 := hide (hR.out.2.1.trans hx1)
        clear hr1 hx1 hR
        go_wp2_with fail
        go_roundw
        case rel => exact ⟨1, rfl, by omega, hide ⟨HR1.out, HX1.out, HAL.out⟩⟩
        case measure => simp [intOf]
    · by_cases hq : x = 92
      · have HQ := Lib.hid (show nx S (k + 1) = 92 by rw [← HX.out]; exact hq)
        have HE := hide (show r = .ok (92, k + 2) by rw [HR.out]; unfold escF; rw [HQ.out]; rfl)
        have HIN1 := hide (HIN.out (by rw [hq]; decide))
        clear hq hm
        go_wp2_with fail
        refine (HY.out 92 _ hR.out.1 (by decide) (by first | trivial | rfl) HQ.out).mono ?_; rintro e w1 ⟨rfl, hr1, hx1⟩
        have HR1 := hide hr1
        have HX1 := hide (hR.out.2.1.trans hx1)
        clear hr1 hx1 hR
        go_wp2_with fail
        go_ret
        rw [HE.out]
        exact ⟨rfl, HR1.out, HX1.out⟩
      · have HNQ := hide (show nx S (k + 1) ≠ 92 by rw [← HX.out]; exact hq)
        have HAL := hide (show ∀ u ∈ escLet.take 2, x ≠ u from fun u hu => by
          have hu2 : u ∈ escLet.take 1 ∨ u = 92 := by simpa [escLet, or_assoc] using hu
          rcases hu2 with h | h
          · exact hR.out.2.2 u h
          · rw [h]; exact hq)
        clear hq
        go_wp2_with fail
        refine (HN.out 92 _ hR.out.1 (by decide) (.inr HNQ.out)).mono ?_; rintro e w1 ⟨rfl, hr1, hx1⟩
        have HR1 := hide hr1
        have HX1 := hide (hR.out.2.1.trans hx1)
        clear hr1 hx1 hR
        go_wp2_with fail
        go_roundw
        case rel => exact ⟨2, rfl, by omega, hide ⟨HR1.out, HX1.out, HAL.out⟩⟩
        case measure => simp [intOf]
    · by_cases hq : x = 47
      · have HQ := Lib.hid (show nx S (k + 1) = 47 by rw [← HX.out]; exact hq)
        have HE := hide (show r = .ok (47, k + 2) by rw [HR.out]; unfold escF; rw [HQ.out]; rfl)
        have HIN1 := hide (HIN.out (by rw [hq]; decide))
        clear hq hm
        go_wp2_with fail
        refine (HY.out 47 _ hR.out.1 (by decide) (by first | trivial | rfl) HQ.out).mono ?_; rintro e w1 ⟨rfl, hr1, hx1⟩
        have HR1 := hide hr1
        have HX1 := hide (hR.out.2.1.trans hx1)
        clear hr1 hx1 hR
        go_wp2_with fail
        go_ret
        rw [HE.out]
        exact ⟨rfl, HR1.out, HX1.out⟩
      · have HNQ := hide (show nx S (k + 1) ≠ 47 by rw [← HX.out]; exact hq)
        have HAL := hide (show ∀ u ∈ escLet.take 3, x ≠ u from fun u hu => by
          have hu2 : u ∈ escLet.take 2 ∨ u = 47 := by simpa [escLet, or_assoc] using hu
          rcases hu2 with h | h
          · exact hR.out.2.2 u h
          · rw [h]; exact hq)
        clear hq
        go_wp2_with fail
        refine (HN.out 47 _ hR.out.1 (by decide) (.inr HNQ.out)).mono ?_; rintro e w1 ⟨rfl, hr1, hx1⟩
        have HR1 := hide hr1
        have HX1 := hide (hR.out.2.1.trans hx1)
        clear hr1 hx1 hR
        go_wp2_with fail
        go_roundw
        case rel => exact ⟨3, rfl, by omega, hide ⟨HR1.out, HX1.out, HAL.out⟩⟩
        case measure => simp [intOf]
    · by_cases hq : x = 98
      · have HQ := Lib.hid (show nx S (k + 1) = 98 by rw [← HX.out]; exact hq)
        have HE := hide (show r = .ok (8, k + 2) by rw [HR.out]; unfold escF; rw [HQ.out]; rfl)
        have HIN1 := hide (HIN.out (by rw [hq]; decide))
        clear hq hm
        go_wp2_with fail
        refine (HY.out 98 _ hR.out.1 (by decide) (by first | trivial | rfl) HQ.out).mono ?_; rintro e w1 ⟨rfl, hr1, hx1⟩
        have HR1 := hide hr1
        have HX1 := hide (hR.out.2.1.trans hx1)
        clear hr1 hx1 hR
        go_wp2_with fail
        go_ret
        rw [HE.out]
        exact ⟨rfl, HR1.out, HX1.out⟩
      · have HNQ := hide (show nx S (k + 1) ≠ 98 by rw [← HX.out]; exact hq)
        have HAL := hide (show ∀ u ∈ escLet.take 4, x ≠ u from fun u hu => by
          have hu2 : u ∈ escLet.take 3 ∨ u = 98 := by simpa [escLet, or_assoc] using hu
          rcases hu2 with h | h
          · exact hR.out.2.2 u h
          · rw [h]; exact hq)
        clear hq
        go_wp2_with fail
        refine (HN.out 98 _ hR.out.1 (by decide) (.inr HNQ.out)).mono ?_; rintro e w1 ⟨rfl, hr1, hx1⟩
        have HR1 := hide hr1
        have HX1 := hide (hR.out.2.1.trans hx1)
        clear hr1 hx1 hR
        go_wp2_with fail
        go_roundw
        case rel => exact ⟨4, rfl, by omega, hide ⟨HR1.out, HX1.out, HAL.out⟩⟩
        case measure => simp [intOf]
    · by_cases hq : x = 116
      · have HQ := Lib.hid (show nx S (k + 1) = 116 by rw [← HX.out]; exact hq)
        have HE := hide (show r = .ok (9, k + 2) by rw [HR.out]; unfold escF; rw [HQ.out]; rfl)
        have HIN1 := hide (HIN.out (by rw [hq]; decide))
        clear hq hm
        go_wp2_with fail
        refine (HY.out 116 _ hR.out.1 (by decide) (by first | trivial | rfl) HQ.out).mono ?_; rintro e w1 ⟨rfl, hr1, hx1⟩
        have HR1 := hide hr1
        have HX1 := hide (hR.out.2.1.trans hx1)
        clear hr1 hx1 hR
        go_wp2_with fail
        go_ret
        rw [HE.out]
        exact ⟨rfl, HR1.out, HX1.out⟩
      · have HNQ := hide (show nx S (k + 1) ≠ 116 by rw [← HX.out]; exact hq)
        have HAL := hide (show ∀ u ∈ escLet.take 5, x ≠ u from fun u hu => by
          have hu2 : u ∈ escLet.take 4 ∨ u = 116 := by simpa [escLet, or_assoc] using hu
          rcases hu2 with h | h
          · exact hR.out.2.2 u h
          · rw [h]; exact hq)
        clear hq
        go_wp2_with fail
        refine (HN.out 116 _ hR.out.1 (by decide) (.inr HNQ.out)).mono ?_; rintro e w1 ⟨rfl, hr1, hx1⟩
        have HR1 := hide hr1
        have HX1 := hide (hR.out.2.1.trans hx1)
        clear hr1 hx1 hR
        go_wp2_with fail
        go_roundw
        case rel => exact ⟨5, rfl, by omega, hide ⟨HR1.out, HX1.out, HAL.out⟩⟩
        case measure => simp [intOf]
    · by_cases hq : x = 110
      · have HQ := Lib.hid (show nx S (k + 1) = 110 by rw [← HX.out]; exact hq)
        have HE := hide (show r = .ok (10, k + 2) by rw [HR.out]; unfold escF; rw [HQ.out]; rfl)
        have HIN1 := hide (HIN.out (by rw [hq]; decide))
        clear hq hm
        go_wp2_with fail
        refine (HY.out 110 _ hR.out.1 (by decide) (by first | trivial | rfl) HQ.out).mono ?_; rintro e w1 ⟨rfl, hr1, hx1⟩
        have HR1 := hide hr1
        have HX1 := hide (hR.out.2.1.trans hx1)
        clear hr1 hx1 hR
        go_wp2_with fail
        go_ret
        rw [HE.out]
        exact ⟨rfl, HR1.out, HX1.out⟩
      · have HNQ := hide (show nx S (k + 1) ≠ 110 by rw [← HX.out]; exact hq)
        have HAL := hide (show ∀ u ∈ escLet.take 6, x ≠ u from fun u hu => by
          have hu2 : u ∈ escLet.take 5 ∨ u = 110 := by simpa [escLet, or_assoc] using hu
          rcases hu2 with h | h
          · exact hR.out.2.2 u h
          · rw [h]; exact hq)
        clear hq
        go_wp2_with fail
        refine (HN.out 110 _ hR.out.1 (by decide) (.inr HNQ.out)).mono ?_; rintro e w1 ⟨rfl, hr1, hx1⟩
        have HR1 := hide hr1
        have HX1 := hide (hR.out.2.1.trans hx1)
        clear hr1 hx1 hR
        go_wp2_with fail
        go_roundw
        case rel => exact ⟨6, rfl, by omega, hide ⟨HR1.out, HX1.out, HAL.out⟩⟩
        case measure => simp [intOf]
    · by_cases hq : x = 102
      · have HQ := Lib.hid (show nx S (k + 1) = 102 by rw [← HX.out]; exact hq)
        have HE := hide (show r = .ok (12, k + 2) by rw [HR.out]; unfold escF; rw [HQ.out]; rfl)
        have HIN1 := hide (HIN.out (by rw [hq]; decide))
        clear hq hm
        go_wp2_with fail
        refine (HY.out 102 _ hR.out.1 (by decide) (by first | trivial | rfl) HQ.out).mono ?_; rintro e w1 ⟨rfl, hr1, hx1⟩
        have HR1 := hide hr1
        have HX1 := hide (hR.out.2.1.trans hx1)
        clear hr1 hx1 hR
        go_wp2_with fail
        go_ret
        rw [HE.out]
        exact ⟨rfl, HR1.out, HX1.out⟩
      · have HNQ := hide (show nx S (k + 1) ≠ 102 by rw [← HX.out]; exact hq)
        have HAL := hide (show ∀ u ∈ escLet.take 7, x ≠ u from fun u hu => by
          have hu2 : u ∈ escLet.take 6 ∨ u = 102 := by simpa [escLet, or_assoc] using hu
          rcases hu2 with h | h
          · exact hR.out.2.2 u h
          · rw [h]; exact hq)
        clear hq
        go_wp2_with fail
        refine (HN.out 102 _ hR.out.1 (by decide) (.inr HNQ.out)).mono ?_; rintro e w1 ⟨rfl, hr1, hx1⟩
        have HR1 := hide hr1
        have HX1 := hide (hR.out.2.1.trans hx1)
        clear hr1 hx1 hR
        go_wp2_with fail
        go_roundw
        case rel => exact ⟨7, rfl, by omega, hide ⟨HR1.out, HX1.out, HAL.out⟩⟩
        case measure => simp [intOf]
    · by_cases hq : x = 114
      · have HQ := Lib.hid (show nx S (k + 1) = 114 by rw [← HX.out]; exact hq)
        have HE := hide (show r = .ok (13, k + 2) by rw [HR.out]; unfold escF; rw [HQ.out]; rfl)
        have HIN1 := hide (HIN.out (by rw [hq]; decide))
        clear hq hm
        go_wp2_with fail
        refine (HY.out 114 _ hR.out.1 (by decide) (by first | trivial | rfl) HQ.out).mono ?_; rintro e w1 ⟨rfl, hr1, hx1⟩
        have HR1 := hide hr1
        have HX1 := hide (hR.out.2.1.trans hx1)
        clear hr1 hx1 hR
        go_wp2_with fail
        go_ret
        rw [HE.out]
        exact ⟨rfl, HR1.out, HX1.out⟩
      · have HNQ := hide (show nx S (k + 1) ≠ 114 by rw [← HX.out]; exact hq)
        have HAL := hide (show ∀ u ∈ escLet.take 8, x ≠ u from fun u hu => by
          have hu2 : u ∈ escLet.take 7 ∨ u = 114 := by simpa [escLet, or_assoc] using hu
          rcases hu2 with h | h
          · exact hR.out.2.2 u h
          · rw [h]; exact hq)
        clear hq
        go_wp2_with fail
        refine (HN.out 114 _ hR.out.1 (by decide) (.inr HNQ.out)).mono ?_; rintro e w1 ⟨rfl, hr1, hx1⟩
        have HR1 := hide hr1
        have HX1 := hide (hR.out.2.1.trans hx1)
        clear hr1 hx1 hR
        go_wp2_with fail
        go_roundw
        case rel => exact ⟨8, rfl, by omega, hide ⟨HR1.out, HX1.out, HAL.out⟩⟩
        case measure => simp [intOf]
    · have HAL := hide hR.out.2.2
      have hall : x ≠ 34 ∧ x ≠ 92 ∧ x ≠ 47 ∧ x ≠ 98 ∧ x ≠ 116 ∧ x ≠ 110 ∧ x ≠ 102 ∧ x ≠ 114 := ⟨HAL.out 34 (by decide), HAL.out 92 (by decide), HAL.out 47 (by decide), HAL.out 98 (by decide), HAL.out 116 (by decide), HAL.out 110 (by decide), HAL.out 102 (by decide), HAL.out 114 (by decide)⟩
      have hesc : r = if x = 117 then uniF S (wordF S [48, 48] (k + 2)) else .error (19, ((k + 1 : Nat) : Int)) := by
        rw [HR.out]
        unfold escF
        rw [← HX.out]
        simp only
        rw [if_neg (by omega), if_neg (by omega), if_neg (by omega), if_neg (by omega), if_neg (by omega), if_neg (by omega)]
        congr 1
      have HEE := Lib.hid hesc
      clear hall hesc HAL hm
      by_cases hq : x = 117
      · have HQ := Lib.hid (show nx S (k + 1) = 117 by rw [← HX.out]; exact hq)
        have HIN1 := hide (HIN.out (by rw [hq]; decide))
        obtain ⟨q, hq2⟩ : ∃ q, q = wordF S [48, 48] (k + 2) := ⟨_, rfl⟩
        have HE := hide (show r = uniF S q by rw [HEE.out, if_pos hq, hq2])
        have HW2 := Lib.hid hq2
        have HWD := hide fun V (h : Rdr V g S (k + 2) (0, 0)) => rword_run S ⟨#[48, 48]⟩ g (k + 2) V h (by have := HIN1.out; omega) hS (by decide) (by decide)
        rw [show (⟨#[48, 48]⟩ : ByteArray).data.toList = [48, 48] from rfl, ← hq2] at HWD
        have HB := hide fun i f V (h : Rdr V g S i f) (hf : f.1 ≠ 0) => rhex_bad S g i f V h hf
        have HH := hide fun i V (h : Rdr V g S i (0, 0)) => rhex_run S g i V h hS
        clear hq hq2 HEE
        go_wp2_with fail
        refine (HY.out 117 _ hR.out.1 (by decide) (by first | trivial | rfl) HQ.out).mono ?_; rintro e w1 ⟨rfl, hr1, hx1⟩
        have HR1 := hide hr1
        have HX1 := hide (hR.out.2.1.trans hx1)
        clear hr1 hx1 hR
        go_wp2_with fail
        refine (HWD.out _ HR1.out).mono ?_
        cases q with
        | error f =>
          rintro e w2 ⟨p, hp, rfl, hr2, hx2⟩
          have hfne : f.1 ≠ 0 := word_err HW2.out.symm
          have HR2 := hide hr2
          have HX2 := hide (HX1.out.trans hx2)
          have HFN := hide hfne
          clear hr2 hx2 HR1 HX1 hfne
          go_wp2_with fail
          refine (HB.out p f _ HR2.out HFN.out).mono ?_; rintro e w3 ⟨rfl, hr3, hx3⟩
          have HR3 := hide hr3
          have HX3 := hide (HX2.out.trans hx3)
          clear hr3 hx3 HR2 HX2
          go_wp2_with fail
          refine (HB.out p f _ HR3.out HFN.out).mono ?_; rintro e w4 ⟨rfl, hr4, hx4⟩
          have HR4 := hide hr4
          have HX4 := hide (HX3.out.trans hx4)
          clear hr4 hx4 HR3 HX3
          go_wp2_with fail
          go_ret
          rw [show r = .error f from HE.out]
          exact ⟨0, p, by omega, hp, ret_int (by first | rfl | omega | (simp; done)), HR4.out, HX4.out⟩
        | ok j =>
          rintro e w2 ⟨rfl, hr2, hx2⟩
          have hj : j ≤ S.size := word_in HW2.out.symm (by decide) (by simp)
          have HR2 := hide hr2
          have HX2 := hide (HX1.out.trans hx2)
          clear hr2 hx2 HR1 HX1
          have HH1 := hide (HH.out j _ HR2.out)
          obtain ⟨v, hv⟩ : ∃ v, v = hexV (nx S j) := ⟨_, rfl⟩
          have HE2 := hide (show r = uniG S j v by rw [hv]; exact HE.out)
          rw [← hv] at HH1
          have HV := Lib.hid hv
          clear hv HE
          go_wp2_with fail
          refine HH1.out.mono ?_
          cases v with
          | none =>
            rintro e w3 ⟨rfl, hr3, hx3⟩
            have HR3 := hide hr3
            have HX3 := hide (HX2.out.trans hx3)
            clear hr3 hx3 HR2 HX2 HH1
            go_wp2_with fail
            refine (HB.out j _ _ HR3.out (show (19 : Int) ≠ 0 by decide)).mono ?_; rintro e w4 ⟨rfl, hr4, hx4⟩
            have HR4 := hide hr4
            have HX4 := hide (HX3.out.trans hx4)
            clear hr4 hx4 HR3 HX3
            go_wp2_with fail
            go_ret
            rw [show r = .error (19, (j : Int)) from HE2.out]
            exact ⟨0, j, by omega, hj, ret_int (by first | rfl | omega | (simp; done)), HR4.out, HX4.out⟩
          | some a =>
            rintro e w3 ⟨rfl, hr3, hx3⟩
            have ha : a < 16 := hex_lt HV.out.symm
            have hj1 : j < S.size := nx_in fun e => by have := HV.out; rw [e] at this; cases this
            have HR3 := hide hr3
            have HX3 := hide (HX2.out.trans hx3)
            clear hr3 hx3 HR2 HX2 HH1
            have HH2 := hide (HH.out (j + 1) _ HR3.out)
            obtain ⟨u, hu⟩ : ∃ v, v = hexV (nx S (j + 1)) := ⟨_, rfl⟩
            have HE3 := hide (show r = uniH j a u by rw [hu]; exact HE2.out)
            rw [← hu] at HH2
            have HU := Lib.hid hu
            have wr1 : IntKind.i64.wrap (16 * (a : Int)) = 16 * (a : Int) := IntWalk.i64_in _ (by omega)
            clear hu HE2
            go_wp2_with fail
            refine HH2.out.mono ?_
            cases u with
            | none =>
              rintro e w4 ⟨rfl, hr4, hx4⟩
              have HR4 := hide hr4
              have HX4 := hide (HX3.out.trans hx4)
              clear hr4 hx4 HR3 HX3 HH2
              go_wp2_with fail
              go_ret
              rw [show r = .error (19, ((j + 1 : Nat) : Int)) from HE3.out]
              exact ⟨16 * a, j + 1, by omega, hj1, ret_int (by first | rfl | omega | (rw [IntKind.wrap_u8]; omega) | (simp; omega)), HR4.out, HX4.out⟩
            | some b =>
              rintro e w4 ⟨rfl, hr4, hx4⟩
              have hb : b < 16 := hex_lt HU.out.symm
              have HR4 := hide hr4
              have HX4 := hide (HX3.out.trans hx4)
              have wr2 : IntKind.i64.wrap (16 * (a : Int) + (b : Int)) = 16 * (a : Int) + (b : Int) := IntWalk.i64_in _ (by omega)
              have wr3 : IntKind.u8.wrap (16 * (a : Int) + (b : Int)) = ((16 * a + b : Nat) : Int) := by rw [IntKind.wrap_u8]; omega
              clear hr4 hx4 HR3 HX3 HH2
              go_wp2_with fail
              go_ret
              rw [show r = .ok (16 * a + b, j + 2) from HE3.out]
              exact ⟨ret_int (by omega), HR4.out, HX4.out⟩
      · have HNQ := hide (show nx S (k + 1) ≠ 117 by rw [← HX.out]; exact hq)
        have HE := hide (show r = .error (19, ((k + 1 : Nat) : Int)) by rw [HEE.out, if_neg hq])
        clear hq HEE
        go_wp2_with fail
        refine (HN.out 117 _ hR.out.1 (by decide) (.inr HNQ.out)).mono ?_; rintro e w1 ⟨rfl, hr1, hx1⟩
        obtain ⟨c0, c1, c2, c3⟩ := hr1.cells
        have HR1 := hide hr1
        have HX1 := hide (hR.out.2.1.trans hx1)
        clear hr1 hx1 hR
        go_wp2_with fail
        refine (HF.out _ HR1.out).mono ?_; rintro e w2 ⟨rfl, hr2, hx2⟩
        have HR2 := hide hr2
        have HX2 := hide (HX1.out.trans hx2)
        clear hr2 hx2 HR1 HX1 c0 c1 c2 c3
        go_wp2_with fail
        go_ret
        rw [HE.out]
        exact ⟨0, k + 1, by omega, hi, rfl, HR2.out, HX2.out⟩
end Go.Proofs.YtmmbbndoimleaaaGreatDoor

/- str of the reference's reader. -/
namespace Go.Proofs.YtmmbbndoimleaaaGreatDoor
open Go.RowKit

def StrPost (g : Nat) (S : ByteArray) (w : World) (r : Except Flt (ByteArray × Nat)) (e : Ending) (w' : World) : Prop :=
  match r with
  | .ok (T, j) => e = .returned (.string T) ∧ Rdr w' g S j (0, 0) ∧ Px g w w'
  | .error f => ∃ (T : ByteArray) (q : Nat), q ≤ S.size ∧ e = .returned (.string T) ∧ Rdr w' g S q f ∧ Px g w w'
/-- The fault's number. -/
def fltOf (w : World) (g : Nat) : Int := intOf ((w.cell? ⟨g, 2, none⟩).getD undef)
theorem Rdr.flt_ {w : World} {g : Nat} {S : ByteArray} {i : Nat} {f : Flt} (h : Rdr w g S i f) : fltOf w g = f.1 := by
  unfold fltOf; rw [h.cells.2.2.1]; rfl
def strM (S : ByteArray) (g : Nat) (w : World) : Nat := if fltOf w g = 0 then S.size + 1 - atOf w g else 0
theorem strM_ok {w : World} {g : Nat} {S : ByteArray} {i : Nat} (h : Rdr w g S i (0, 0)) : strM S g w = S.size + 1 - i := by
  unfold strM; rw [h.flt_, h.at_, if_pos rfl]
theorem strM_bad {w : World} {g : Nat} {S : ByteArray} {i : Nat} {f : Flt} (h : Rdr w g S i f) (hf : f.1 ≠ 0) : strM S g w = 0 := by
  unfold strM; rw [h.flt_, if_neg hf]
theorem esc_err {S : ByteArray} {i : Nat} {f : Flt} (h : escF S i = .error f) : f.1 ≠ 0 := by
  unfold escF at h
  simp only at h
  split at h
  · cases h
  split at h
  · cases h
  split at h
  · cases h
  split at h
  · cases h
  split at h
  · cases h
  split at h
  · cases h
  split at h
  · cases hw : wordF S [48, 48] (i + 2) with
    | error g => rw [hw] at h; injection h with h; rw [← h]; exact word_err hw
    | ok j =>
      rw [hw] at h
      simp only at h
      cases ha : hexV (nx S j) with
      | none => rw [ha] at h; injection h with h; rw [← h]; exact (show (19 : Int) ≠ 0 by decide)
      | some a =>
        rw [ha] at h
        simp only at h
        cases hb : hexV (nx S (j + 1)) with
        | none => rw [hb] at h; injection h with h; rw [← h]; exact (show (19 : Int) ≠ 0 by decide)
        | some b => rw [hb] at h; cases h
  · injection h with h; rw [← h]; exact (show (19 : Int) ≠ 0 by decide)

def escG (S T : ByteArray) : Except Flt (Nat × Nat) → Except Flt (ByteArray × Nat)
  | .error f => .error f
  | .ok (c, j) => strR S j (T.push (UInt8.ofNat c))
theorem conv_u1 (c : Nat) (hc : c < 256) (W : World) : (convert 73 9 (.slice (some ⟨W.heap.size, 0, none⟩) 1 1)).run Tryz.prog (W.alloc (.cells #[.int .u8 (c : Int)] 5)) = .ok (.string ⟨#[UInt8.ofNat c]⟩) (W.alloc (.cells #[.int .u8 (c : Int)] 5)) := by
  have e : ((UInt8.ofNat c).toNat : Int) = (c : Int) := by simp; omega
  have h : (W.alloc (.cells #[.int .u8 (c : Int)] 5)).ownsRow W.heap.size 5 1 (.slice (some ⟨W.heap.size, 0, none⟩) 1 1) 1 (byL [UInt8.ofNat c]) :=
    ⟨rfl, .inr ⟨W.heap.size, 1, #[Value.int .u8 (c : Int)], rfl, Nat.le_refl _, heap_alloc_new W _, by omega, by simp [maxLen], rfl, by unfold byL; simp; omega⟩⟩
  exact conv_row (b := W.heap.size) (l := [UInt8.ofNat c]) h
theorem ba_one (T : ByteArray) (c : Nat) : T ++ ⟨#[UInt8.ofNat c]⟩ = T.push (UInt8.ofNat c) := by
  apply ByteArray.ext
  rw [ByteArray.data_append]
  apply Array.toList_inj.1
  simp [ByteArray.push]

set_option maxRecDepth 20000 in
set_option maxHeartbeats 4000000 in
theorem rstr_run (S : ByteArray) (g i : Nat) (w : World) (h : Rdr w g S i (0, 0)) (hi : i ≤ S.size) (hS : S.size ≤ 1000000000) :
    Calls Tryz.prog 49 #[.pointer (some ⟨g, 0, none⟩)] w (StrPost g S w (strR S i ByteArray.empty)) := by
  have HM := hide fun k f V (h : Rdr V g S k f) => more_run S g k f V h
  have HY := hide fun c k f V (h : Rdr V g S k f) (hk : k ≤ S.size) => is_yes S g k c f V h (by omega)
  have HN := hide fun c k f V (h : Rdr V g S k f) (hk : k ≤ S.size) => is_no S g k c f V h (by omega)
  have HF := hide fun (k : Nat) f V (h : Rdr V g S k f) => rfail_run S g k f 19 (k : Nat) V h
  have HES := hide fun k V (h : Rdr V g S (k + 1) (0, 0)) (hk : k + 1 ≤ S.size) => rescape_run S g k V h hk hS
  obtain ⟨r, hr⟩ : ∃ r, r = strR S i ByteArray.empty := ⟨_, rfl⟩
  rw [← hr]
  have H0 := hide (show Px g w w ∧ ((Rdr w g S i (0, 0) ∧ (⟨#[]⟩ : ByteArray).size ≤ i ∧ r = strR S i ⟨#[]⟩) ∨ ∃ f, r = .error f ∧ f.1 ≠ 0 ∧ Rdr w g S i f) from ⟨Px.refl, .inl ⟨h, Nat.zero_le _, hr⟩⟩)
  have HG := hide h.lt
  clear hr h
  go_enter Tryz.func49, Tryz.ntmps49
  go_wp2_with fail
  go_loopw [3] (fun sv wr => ∃ (k : Nat) (T : ByteArray), sv = .string T ∧ k ≤ S.size ∧ Hid (Px g w wr ∧ ((Rdr wr g S k (0, 0) ∧ T.size ≤ k ∧ r = strR S k T) ∨ ∃ f, r = .error f ∧ f.1 ≠ 0 ∧ Rdr wr g S k f))) (fun _ wr => strM S g wr)
  case atStart => exact ⟨i, ⟨#[]⟩, rfl, hi, H0⟩
  case round =>
    clear H0
    obtain ⟨k, T, rfl, hk, hR⟩ := hrel
    rcases hR.out.2 with ⟨h1, h2, h3⟩ | ⟨f, h1, h2, h3⟩
    · have HP := hide h1
      have HX := hide hR.out.1
      have hts := h2
      have HSR := hide (h3.trans (strR_eq hk T))
      have HM1 := hide fun V (h : Rdr V g S k (0, 0)) => HM.out k (0, 0) V h
      have HPd := hide fun n => h1.drewN n
      have HAT := hide (strM_ok h1)
      clear h1 h2 h3 hR
      by_cases hlt : k < S.size
      · have em : moreB S k (0, 0) = true := by unfold moreB; simpa using hlt
        rw [em] at HM1
        obtain ⟨x, hx⟩ : ∃ x, x = (S[k]).toNat := ⟨_, rfl⟩
        have hx2 : x < 256 := by rw [hx]; exact (S[k]).toNat_lt
        have hS2 : (S[k]).toNat = x := hx.symm
        have HNX := hide (show nx S k = x by rw [hx]; exact nx_at hlt)
        obtain ⟨c0, c1, c2, c3⟩ := HP.out.cells
        clear hx em
        by_cases l1 : x < 32
        · have d1 : decide ((32 : Int) ≤ (x : Int)) = false := by simp; omega
          have HE := hide (show r = .error (19, (k : Int)) by rw [HSR.out, HNX.out, if_neg (by omega), if_neg (by omega), if_pos (by omega)])
          clear c0 c1 c2 c3 HSR
          obtain ⟨c0, c1, c2, c3⟩ := HP.out.cells
          go_wp2_with fail
          go_quiet ((go_at_call 53; exact Calls.quiet_of (HM1.out _ (HPd.out _))))
          obtain ⟨wz, hwz⟩ : ∃ W, W = wr.drewN nq := ⟨_, rfl⟩
          have HPz := hide (show Rdr wz g S k (0, 0) by rw [hwz]; exact HP.out.drewN _)
          have HXz := hide (show Px g w wz by rw [hwz]; exact HX.out.drewN _)
          rw [← hwz]
          clear hwz HP HX
          clear c0 c1 c2 c3
          obtain ⟨c0, c1, c2, c3⟩ := HPz.out.cells
          go_wp2_with fail
          refine (HF.out k (0, 0) _ HPz.out).mono ?_; rintro e w2 ⟨rfl, hr2, hx2⟩
          have HR2 := hide hr2
          have HX2 := hide (HXz.out.trans hx2)
          clear hr2 hx2 c0 c1 c2 c3
          go_wp2_with fail
          go_ret
          rw [HE.out]
          exact ⟨_, k, hk, rfl, HR2.out, HX2.out⟩
        · have d1 : decide ((32 : Int) ≤ (x : Int)) = true := by simp; omega
          by_cases l2 : 126 < x
          · have d2 : decide ((x : Int) ≤ 126) = false := by simp; omega
            have HE := hide (show r = .error (19, (k : Int)) by rw [HSR.out, HNX.out, if_neg (by omega), if_neg (by omega), if_pos (by omega)])
            clear HSR
            go_wp2_with fail
            go_quiet ((go_at_call 53; exact Calls.quiet_of (HM1.out _ (HPd.out _))))
            obtain ⟨wz, hwz⟩ : ∃ W, W = wr.drewN nq := ⟨_, rfl⟩
            have HPz := hide (show Rdr wz g S k (0, 0) by rw [hwz]; exact HP.out.drewN _)
            have HXz := hide (show Px g w wz by rw [hwz]; exact HX.out.drewN _)
            rw [← hwz]
            clear hwz HP HX
            clear c0 c1 c2 c3
            obtain ⟨c0, c1, c2, c3⟩ := HPz.out.cells
            go_wp2_with fail
            refine (HF.out k (0, 0) _ HPz.out).mono ?_; rintro e w2 ⟨rfl, hr2, hx2⟩
            have HR2 := hide hr2
            have HX2 := hide (HXz.out.trans hx2)
            clear hr2 hx2 c0 c1 c2 c3
            go_wp2_with fail
            go_ret
            rw [HE.out]
            exact ⟨_, k, hk, rfl, HR2.out, HX2.out⟩
          · have d2 : decide ((x : Int) ≤ 126) = true := by simp; omega
            go_wp2_with fail
            go_quiet ((go_at_call 53; exact Calls.quiet_of (HM1.out _ (HPd.out _))))
            obtain ⟨wz, hwz⟩ : ∃ W, W = wr.drewN nq := ⟨_, rfl⟩
            have HPz := hide (show Rdr wz g S k (0, 0) by rw [hwz]; exact HP.out.drewN _)
            have HXz := hide (show Px g w wz by rw [hwz]; exact HX.out.drewN _)
            rw [← hwz]
            clear hwz HP HX
            clear c0 c1 c2 c3
            by_cases q34 : x = 34
            · have HQ := Lib.hid (show nx S k = 34 by rw [HNX.out]; exact q34)
              have HE := hide (show r = .ok (T, k + 1) by rw [HSR.out, HQ.out, if_pos rfl])
              clear q34 HSR
              go_wp2_with fail
              refine (HY.out 34 k _ _ HPz.out hk (by decide) (by first | trivial | rfl) HQ.out).mono ?_; rintro e w1 ⟨rfl, hr1, hx1⟩
              have HR1 := hide hr1
              have HX1 := hide (HXz.out.trans hx1)
              clear hr1 hx1 HPz HXz
              go_wp2_with fail
              go_ret
              rw [HE.out]
              exact ⟨rfl, HR1.out, HX1.out⟩
            have HNQ := hide (show nx S k ≠ 34 by rw [HNX.out]; exact q34)
            by_cases q92 : x = 92
            · have HQ := Lib.hid (show nx S k = 92 by rw [HNX.out]; exact q92)
              obtain ⟨q, hq⟩ : ∃ q, q = escF S k := ⟨_, rfl⟩
              have HE := hide (show r = escG S T q by rw [HSR.out, HQ.out, if_neg (by decide), if_pos rfl, hq]; rfl)
              have HQE := Lib.hid hq
              have HES1 := hide fun V (h : Rdr V g S (k + 1) (0, 0)) => HES.out k V h hlt
              rw [← hq] at HES1
              clear q34 q92 HSR hq
              go_wp2_with fail
              refine (HN.out 34 k _ _ HPz.out hk (by decide) (.inr HNQ.out)).mono ?_; rintro e w1 ⟨rfl, hr1, hx1⟩
              have HR1 := hide hr1
              have HX1 := hide (HXz.out.trans hx1)
              clear hr1 hx1 HPz HXz
              go_wp2_with fail
              refine (HY.out 92 k _ _ HR1.out hk (by decide) (by first | trivial | rfl) HQ.out).mono ?_; rintro e w2 ⟨rfl, hr2, hx2⟩
              have HR2 := hide hr2
              have HX2 := hide (HX1.out.trans hx2)
              clear hr2 hx2 HR1 HX1
              go_wp2_with fail
              refine (HES1.out _ HR2.out).mono ?_
              cases q with
              | error f =>
                rintro e w3 ⟨c, p, hc, hp, rfl, hr3, hx3⟩
                have hfne := esc_err HQE.out.symm
                have HR3 := hide hr3
                have HX3 := hide (HX2.out.trans hx3)
                have HFN := hide hfne
                have hov : ¬ 9223372036854775807 < T.size + 1 := by omega
                have hcv := conv_u1 c hc w3
                clear hr3 hx3 HR2 HX2 HES1 hfne
                go_wp2_with fail
                go_roundw
                case rel => exact ⟨p, _, rfl, hp, hide ⟨HX3.out.alloc _, .inr ⟨f, HE.out, HFN.out, HR3.out.below ((Below.refl _ _).alloc (Nat.le_refl _) _)⟩⟩⟩
                case measure =>
                  rw [HAT.out, strM_bad (HR3.out.below ((Below.refl _ _).alloc (Nat.le_refl _) (.cells #[.int .u8 (c : Int)] 5))) HFN.out]; omega
              | ok p =>
                obtain ⟨c, j⟩ := p
                rintro e w3 ⟨rfl, hr3, hx3⟩
                obtain ⟨k1, k2, k3⟩ := esc_ok HQE.out.symm
                have HR3 := hide hr3
                have HX3 := hide (HX2.out.trans hx3)
                have hov : ¬ 9223372036854775807 < T.size + 1 := by omega
                have hcv := conv_u1 c k3 w3
                have HAP := hide (ba_one T c)
                clear hr3 hx3 HR2 HX2 HES1
                go_wp2_with fail
                go_roundw
                case rel => exact ⟨j, T ++ ⟨#[UInt8.ofNat c]⟩, rfl, k2, hide ⟨HX3.out.alloc _, .inl ⟨HR3.out.below ((Below.refl _ _).alloc (Nat.le_refl _) _), by rw [bsize_append]; show _ + 1 ≤ _; omega, by rw [HAP.out]; exact HE.out⟩⟩⟩
                case measure =>
                  rw [HAT.out, strM_ok (HR3.out.below ((Below.refl _ _).alloc (Nat.le_refl _) (.cells #[.int .u8 (c : Int)] 5)))]; omega
            have HNQ2 := hide (show nx S k ≠ 92 by rw [HNX.out]; exact q92)
            have HE := hide (show r = strR S (k + 1) (T.push (UInt8.ofNat x)) by rw [HSR.out, HNX.out, if_neg q34, if_neg q92, if_neg (by omega)])
            clear q34 q92 HSR
            go_wp2_with fail
            refine (HN.out 34 k _ _ HPz.out hk (by decide) (.inr HNQ.out)).mono ?_; rintro e w1 ⟨rfl, hr1, hx1⟩
            have HR1 := hide hr1
            have HX1 := hide (HXz.out.trans hx1)
            clear hr1 hx1 HPz HXz
            go_wp2_with fail
            refine (HN.out 92 k _ _ HR1.out hk (by decide) (.inr HNQ2.out)).mono ?_; rintro e w2 ⟨rfl, hr2, hx2⟩
            have HR2 := hide hr2
            have HX2 := hide (HX1.out.trans hx2)
            clear hr2 hx2 HR1 HX1
            go_upto_region 7 with fail
            obtain ⟨wd, hwd⟩ : ∃ W, W = w2.drew := ⟨_, rfl⟩
            have HRd := hide (show Rdr wd g S k (0, 0) by rw [hwd]; exact HR2.out.drewN 1)
            have HXd := hide (show Px g w wd by rw [hwd]; exact HX2.out.drew)
            have hH0 : wd.cell? ⟨g, 0, none⟩ = some (.string S) ∧ wd.cell? ⟨g, 1, none⟩ = some (.int .i64 k) := ⟨HRd.out.cells.1, HRd.out.cells.2.1⟩
            refine region_two 12 (fun W => W.cell? ⟨g, 0, none⟩ = some (.string S) ∧ W.cell? ⟨g, 1, none⟩ = some (.int .i64 k)) (by kernel_rfl) (by kernel_rfl) (by rw [← hwd]; exact hH0) (fun hH => ?_)
            rw [← hwd] at hH ⊢
            clear hwd hH0
            simp only [List.take_succ_cons, List.take_zero]
            refine takeH (i := 0) (v := ?_) rfl (by kernel_rfl) (by kernel_rfl) (by kernel_rfl) (fun _ _ _ h => h) (Or.inl ⟨by rfl, ?_⟩) hH ?_
            rotate_left
            · (intro w hSw; (try dsimp only at hSw); go_simp; try with_reducible rfl)
            simp only [Act.put, List.setIfInBounds_toArray, List.set_cons_zero, List.set_cons_succ]
            refine takeH (i := 1) (v := ?_) rfl (by kernel_rfl) (by kernel_rfl) (by kernel_rfl) (fun _ _ _ h => h) (Or.inl ⟨by rfl, ?_⟩) hH ?_
            rotate_left
            · (intro w hSw; (try dsimp only at hSw); go_simp; try with_reducible rfl)
            simp only [Act.put, List.setIfInBounds_toArray, List.set_cons_zero, List.set_cons_succ]
            refine takeH (i := 2) (v := ?_) rfl (by kernel_rfl) (by kernel_rfl) (by kernel_rfl) (fun _ _ _ h => h) (Or.inl ⟨by rfl, ?_⟩) hH ?_
            rotate_left
            · (intro w hSw; (try dsimp only at hSw); go_simp; try with_reducible rfl)
            simp only [Act.put, List.setIfInBounds_toArray, List.set_cons_zero, List.set_cons_succ]
            refine takeH (i := 3) (v := ?_) rfl (by kernel_rfl) (by kernel_rfl) (by kernel_rfl) (fun _ _ _ h => h) (Or.inl ⟨by rfl, ?_⟩) hH ?_
            rotate_left
            · (intro w hSw; (try dsimp only at hSw); go_simp; try with_reducible rfl)
            simp only [Act.put, List.setIfInBounds_toArray, List.set_cons_zero, List.set_cons_succ]
            refine takeH (i := 4) (v := ?_) rfl (by kernel_rfl) (by kernel_rfl) (by kernel_rfl) (fun _ _ _ h => h) (Or.inl ⟨by rfl, ?_⟩) hH ?_
            rotate_left
            · (intro w hSw; (try dsimp only at hSw); go_simp; try with_reducible rfl)
            simp only [Act.put, List.setIfInBounds_toArray, List.set_cons_zero, List.set_cons_succ]
            refine takeH (i := 5) (v := ?_) rfl (by kernel_rfl) (by kernel_rfl) (by kernel_rfl) (fun _ _ _ h => h) (Or.inl ⟨by rfl, ?_⟩) hH ?_
            rotate_left
            · (intro w hSw; (try dsimp only at hSw); go_simp; try with_reducible rfl)
            simp only [Act.put, List.setIfInBounds_toArray, List.set_cons_zero, List.set_cons_succ]
            refine takeH (i := 6) (v := ?_) rfl (by kernel_rfl) (by kernel_rfl) (by kernel_rfl) (fun _ _ _ h => h) (Or.inl ⟨by rfl, ?_⟩) hH ?_
            rotate_left
            · (intro w hSw; (try dsimp only at hSw); go_simp; try with_reducible rfl)
            simp only [Act.put, List.setIfInBounds_toArray, List.set_cons_zero, List.set_cons_succ]
            refine takeH (i := 7) (v := ?_) rfl (by kernel_rfl) (by kernel_rfl) (by kernel_rfl) (fun _ _ _ h => h) (Or.inl ⟨by rfl, ?_⟩) hH ?_
            rotate_left
            · (intro w hSw; (try dsimp only at hSw); go_simp; try with_reducible rfl)
            simp only [Act.put, List.setIfInBounds_toArray, List.set_cons_zero, List.set_cons_succ]
            refine takeH (i := 8) (v := ?_) rfl (by kernel_rfl) (by kernel_rfl) (by kernel_rfl) (fun _ _ _ h => h) (Or.inl ⟨by rfl, ?_⟩) hH ?_
            rotate_left
            · (intro w hSw; (try dsimp only at hSw); go_simp; try with_reducible rfl)
            simp only [Act.put, List.setIfInBounds_toArray, List.set_cons_zero, List.set_cons_succ]
            refine takeH (i := 9) (v := ?_) rfl (by kernel_rfl) (by kernel_rfl) (by kernel_rfl) (fun _ _ _ h => h) (Or.inl ⟨by rfl, ?_⟩) hH ?_
            rotate_left
            · (intro w hSw; (try dsimp only at hSw); go_simp; try with_reducible rfl)
            simp only [Act.put, List.setIfInBounds_toArray, List.set_cons_zero, List.set_cons_succ]
            refine oneH (i := 10) rfl (by kernel_rfl) (fun K hK => ?_)
            go_simp
            have HRe := hide (HRd.out.below ((Below.refl _ _).alloc (Nat.le_refl _) (.cells #[.int .u8 (x : Int)] 5)))
            have HXe := hide (HXd.out.alloc (.cells #[.int .u8 (x : Int)] 5))
            have hcv := conv_u1 x hx2 wd
            obtain ⟨we, hwe⟩ : ∃ W, W = wd.alloc (.cells #[.int .u8 (x : Int)] 5) := ⟨_, rfl⟩
            obtain ⟨ge, hge⟩ : ∃ b, b = wd.heap.size := ⟨_, rfl⟩
            rw [← hwe] at HRe HXe hcv ⊢
            rw [← hge] at hcv ⊢
            clear hwe hge HRd HXd hH
            have hH1 : we.cell? ⟨g, 0, none⟩ = some (.string S) ∧ we.cell? ⟨g, 1, none⟩ = some (.int .i64 k) := ⟨HRe.out.cells.1, HRe.out.cells.2.1⟩
            refine hK.out _ _ hH1 (fun hH => ?_)
            clear hK K
            refine oneH (i := 11) rfl (by kernel_rfl) (fun K hK => ?_)
            go_simp
            refine hK.out _ _ hH1 (fun hH => ?_)
            clear hK K
            refine wpAnyH_done (by kernel_rfl) ?_ _
            unfold TailPost
            simp only [List.drop_succ_cons, List.drop_zero]
            have hov : ¬ 9223372036854775807 < T.size + 1 := by omega
            have HAP := hide (ba_one T x)
            obtain ⟨c0, c1, c2, c3⟩ := HRe.out.cells
            obtain ⟨f1, f2, f3⟩ := HRe.out.free
            clear hH hH1 hcv
            go_wp2_with fail
            go_roundw
            case rel => exact ⟨k + 1, T ++ ⟨#[UInt8.ofNat x]⟩, rfl, hlt, hide ⟨HXe.out.set_ 1 _, .inl ⟨HRe.out.set_ (k + 1), by rw [bsize_append]; show _ + 1 ≤ _; omega, by rw [HAP.out]; exact HE.out⟩⟩⟩
            case measure =>
              have e1 : strM S g (we.setCell ⟨g, 1, none⟩ (.int .i64 ((k : Int) + 1))) = S.size + 1 - (k + 1) := strM_ok (HRe.out.set_ (k + 1))
              rw [HAT.out, e1]; omega
      · have em : moreB S k (0, 0) = false := by unfold moreB; simpa using hlt
        rw [em] at HM1
        have HE := hide (show r = .error (19, (k : Int)) by
          have h0 : nx S k = 0 := nx_past hlt
          rw [HSR.out, h0, if_neg (by omega), if_neg (by omega), if_pos (by omega)])
        clear em HSR
        go_wp2_with fail
        go_quiet ((go_at_call 53; exact Calls.quiet_of (HM1.out _ (HPd.out _))))
        obtain ⟨wz, hwz⟩ : ∃ W, W = wr.drewN nq := ⟨_, rfl⟩
        have HPz := hide (show Rdr wz g S k (0, 0) by rw [hwz]; exact HP.out.drewN _)
        have HXz := hide (show Px g w wz by rw [hwz]; exact HX.out.drewN _)
        rw [← hwz]
        clear hwz HP HX
        obtain ⟨c0, c1, c2, c3⟩ := HPz.out.cells
        go_wp2_with fail
        refine (HF.out k (0, 0) _ HPz.out).mono ?_; rintro e w2 ⟨rfl, hr2, hx2⟩
        have HR2 := hide hr2
        have HX2 := hide (HXz.out.trans hx2)
        clear hr2 hx2 c0 c1 c2 c3
        go_wp2_with fail
        go_ret
        rw [HE.out]
        exact ⟨_, k, hk, rfl, HR2.out, HX2.out⟩
    · have HP := hide h3
      have HX := hide hR.out.1
      have HE := hide h1
      have HNE := hide h2
      have em : moreB S k f = false := by
        unfold moreB
        have : (f.1 == 0) = false := by simpa using h2
        rw [this]; rfl
      have HM1 := hide fun V (h : Rdr V g S k f) => HM.out k f V h
      rw [em] at HM1
      have HPd := hide fun n => h3.drewN n
      clear h1 h2 h3 hR em
      go_wp2_with fail
      go_quiet ((go_at_call 53; exact Calls.quiet_of (HM1.out _ (HPd.out _))))
      obtain ⟨wz, hwz⟩ : ∃ W, W = wr.drewN nq := ⟨_, rfl⟩
      have HPz := hide (show Rdr wz g S k f by rw [hwz]; exact HP.out.drewN _)
      have HXz := hide (show Px g w wz by rw [hwz]; exact HX.out.drewN _)
      rw [← hwz]
      clear hwz HP HX
      obtain ⟨c0, c1, c2, c3⟩ := HPz.out.cells
      go_wp2_with fail
      refine (HF.out k f _ HPz.out).mono ?_; rintro e w2 ⟨rfl, hr2, hx2⟩
      have HR2 := hide (show Rdr w2 g S k f by unfold keepF at hr2; rw [if_neg HNE.out] at hr2; exact hr2)
      have HX2 := hide (HXz.out.trans hx2)
      clear hr2 hx2 c0 c1 c2 c3
      go_wp2_with fail
      go_ret
      rw [HE.out]
      exact ⟨_, k, hk, rfl, HR2.out, HX2.out⟩
end Go.Proofs.YtmmbbndoimleaaaGreatDoor

/- digits of the reference's reader. -/
namespace Go.Proofs.YtmmbbndoimleaaaGreatDoor
open Go.RowKit

set_option maxRecDepth 20000 in
set_option maxHeartbeats 2000000 in
theorem rdigits_yes (S : ByteArray) (g i : Nat) (w : World) (h : Rdr w g S i (0, 0)) (hS : S.size ≤ 1000000000) (hd : digB (nx S i) = true) :
    Calls Tryz.prog 74 #[.pointer (some ⟨g, 0, none⟩)] w fun e w' => e = .returned (.string (S.extract i (dge S i))) ∧ Rdr w' g S (dge S i) (0, 0) ∧ Px g w w' := by
  have hi : i < S.size := nx_in fun e => by rw [e] at hd; cases hd
  have HD := hide fun k V (h : Rdr V g S k (0, 0)) => rdigit_run S g k (0, 0) V h
  simp only [beq_self_eq_true, Bool.true_and] at HD
  obtain ⟨B, hB⟩ : ∃ b, b = dge S i := ⟨_, rfl⟩
  rw [← hB]
  have hBi : i ≤ B := by rw [hB]; exact run_ge _ _ _
  have hBs : B ≤ S.size := by rw [hB]; exact run_le _ (by omega)
  have HP := hide h
  have H0 := hide (show Rdr w g S i (0, 0) ∧ Px g w w ∧ B = dge S i from ⟨h, Px.refl, hB⟩)
  have HDI := hide (HD.out i)
  rw [hd] at HDI
  clear hB h hd
  obtain ⟨c0, c1, c2, c3⟩ := HP.out.cells
  go_enter Tryz.func74, Tryz.ntmps74
  go_wp2_with fail
  refine (HDI.out _ HP.out).mono ?_; rintro e w1 ⟨rfl, n1, hw1⟩
  have H1 := hide (show Rdr w1 g S i (0, 0) ∧ Px g w w1 ∧ B = dge S i by rw [hw1]; exact ⟨HP.out.drewN _, Px.refl.drewN _, H0.out.2.2⟩)
  clear hw1 H0 HP c0 c1 c2 c3
  go_wp2_with fail
  go_loopw [] (fun wr => ∃ k : Nat, k ≤ S.size ∧ Hid (Rdr wr g S k (0, 0) ∧ Px g w wr ∧ B = dge S k)) (fun wr => S.size - atOf wr g)
  case atStart => exact ⟨i, by omega, H1⟩
  case round =>
    clear H1
    obtain ⟨k, hk, hR⟩ := hrel
    have HAT := hide (show atOf wr g = k from hR.out.1.at_)
    have HDK := hide (HD.out k)
    cases hq : digB (nx S k) with
    | true =>
      rw [hq] at HDK
      have hlt : k < S.size := nx_in fun e => by rw [e] at hq; cases hq
      have HN := hide (show B = dge S (k + 1) by rw [hR.out.2.2]; exact run_step rfl hq)
      clear hq
      go_wp2_with fail
      refine (HDK.out _ hR.out.1).mono ?_; rintro e w2 ⟨rfl, n2, hw2⟩
      have HR2 := hide (show Rdr w2 g S k (0, 0) by rw [hw2]; exact hR.out.1.drewN _)
      have HX2 := hide (show Px g w w2 by rw [hw2]; exact hR.out.2.1.drewN _)
      clear hw2 hR
      obtain ⟨c0, c1, c2, c3⟩ := HR2.out.cells
      obtain ⟨f1, f2, f3⟩ := HR2.out.free
      go_wp2_with fail
      go_roundw
      case rel => exact ⟨k + 1, hlt, hide ⟨HR2.out.set_ (k + 1), HX2.out.set_ 1 _, HN.out⟩⟩
      case measure =>
        have e1 : atOf (w2.setCell ⟨g, 1, none⟩ (.int .i64 ((k : Int) + 1))) g = k + 1 := (HR2.out.set_ (k + 1)).at_
        rw [HAT.out, e1]; omega
    | false =>
      rw [hq] at HDK
      have hBk : B = k := by rw [hR.out.2.2]; exact run_stop hq
      subst hBk
      clear hq
      go_wp2_with fail
      refine (HDK.out _ hR.out.1).mono ?_; rintro e w2 ⟨rfl, n2, hw2⟩
      have HR2 := hide (show Rdr w2 g S B (0, 0) by rw [hw2]; exact hR.out.1.drewN _)
      have HX2 := hide (show Px g w w2 by rw [hw2]; exact hR.out.2.1.drewN _)
      clear hw2 hR
      obtain ⟨c0, c1, c2, c3⟩ := HR2.out.cells
      go_wp2_with fail
      go_quiet (fail)
      go_wp2_with fail
      go_ret
      exact ⟨rfl, HR2.out.drewN _, HX2.out.drewN _⟩
set_option maxRecDepth 20000 in
set_option maxHeartbeats 2000000 in
theorem rdigits_no (S : ByteArray) (g i : Nat) (w : World) (h : Rdr w g S i (0, 0)) (hi : i ≤ S.size) (hd : digB (nx S i) = false) :
    Calls Tryz.prog 74 #[.pointer (some ⟨g, 0, none⟩)] w fun e w' => e = .returned (.string ByteArray.empty) ∧ Rdr w' g S i (19, (i : Int)) ∧ Px g w w' := by
  have HD := hide fun V (h : Rdr V g S i (0, 0)) => rdigit_run S g i (0, 0) V h
  have HD2 := hide fun V (h : Rdr V g S i (19, (i : Int))) => rdigit_run S g i (19, (i : Int)) V h
  rw [hd] at HD HD2
  have HF := hide fun V (h : Rdr V g S i (0, 0)) => rfail_run S g i (0, 0) 19 (i : Nat) V h
  have HP := hide h
  clear h hd
  obtain ⟨c0, c1, c2, c3⟩ := HP.out.cells
  go_enter Tryz.func74, Tryz.ntmps74
  go_wp2_with fail
  refine (HD.out _ HP.out).mono ?_; rintro e w1 ⟨rfl, n1, hw1⟩
  have HR1 := hide (show Rdr w1 g S i (0, 0) by rw [hw1]; exact HP.out.drewN _)
  have HX1 := hide (show Px g w w1 by rw [hw1]; exact Px.refl.drewN _)
  clear hw1 HP c0 c1 c2 c3
  obtain ⟨c0, c1, c2, c3⟩ := HR1.out.cells
  go_wp2_with fail
  refine (HF.out _ HR1.out).mono ?_; rintro e w2 ⟨rfl, hr2, hx2⟩
  have HR2 := hide (show Rdr w2 g S i (19, (i : Int)) from hr2)
  have HX2 := hide (HX1.out.trans hx2)
  clear hr2 hx2 HR1 HX1 c0 c1 c2 c3
  go_wp2_with fail
  go_loopw [] (fun wr => Hid (Rdr wr g S i (19, (i : Int)) ∧ Px g w wr)) (fun _ => 0)
  case atStart => exact hide ⟨HR2.out, HX2.out⟩
  case round =>
    clear HR2 HX2
    have hR := hrel
    go_wp2_with fail
    refine (HD2.out _ hR.out.1).mono ?_; rintro e w3 ⟨rfl, n3, hw3⟩
    have HR3 := hide (show Rdr w3 g S i (19, (i : Int)) by rw [hw3]; exact hR.out.1.drewN _)
    have HX3 := hide (show Px g w w3 by rw [hw3]; exact hR.out.2.drewN _)
    clear hw3 hR hrel
    obtain ⟨c0, c1, c2, c3⟩ := HR3.out.cells
    go_wp2_with fail
    go_quiet (fail)
    go_wp2_with fail
    go_ret
    exact ⟨rfl, HR3.out.drewN _, HX3.out.drewN _⟩
end Go.Proofs.YtmmbbndoimleaaaGreatDoor

/- A number as the reference reads it, plain. -/
namespace Go.Proofs.YtmmbbndoimleaaaGreatDoor
open Go.RowKit

/-- What the reference makes of the digits of a number. -/
def tailN (i : Nat) (ng : Bool) (wh pl : ByteArray) : Except Flt Int :=
  if 12 < wh.size ∨ 4 < pl.size then .error (1, (i : Int)) else
  if 1000000000000000 < valD (lst wh ++ (lst pl ++ List.replicate (4 - pl.size) 48)) then .error (1, (i : Int)) else
  .ok (if ng = true then -(valD (lst wh ++ (lst pl ++ List.replicate (4 - pl.size) 48)) : Int) else (valD (lst wh ++ (lst pl ++ List.replicate (4 - pl.size) 48)) : Int))
def tailE (r : Except Flt Int) (e : Nat) : Except Flt (Int × Nat) := match r with
  | .error f => .error f
  | .ok u => .ok (u, e)
theorem valD_push (l : List UInt8) (c : UInt8) : valD (l ++ [c]) = 10 * valD l + (c.toNat - 48) := by unfold valD; rw [List.foldl_append]; rfl
theorem digN_val {S : ByteArray} {a : Nat} {l : List UInt8} (h : Sits S a l) : ∀ k, k ≤ l.length → digN S a k = valD (l.take k)
  | 0, _ => rfl
  | k + 1, hk => by
    have hc : l[k]? = some l[k] := List.getElem?_eq_getElem (by omega)
    have e : l = l.take k ++ l.drop k := (List.take_append_drop k l).symm
    have hx : nx S (a + k) = (l[k]).toNat := by
      rw [e] at h
      have h2 := (sits_app h).2
      rw [List.length_take, show min k l.length = k by omega, List.drop_eq_getElem_cons (by omega)] at h2
      exact h2.1.1
    rw [digN, digN_val h k (by omega), List.take_add_one, hc, hx]
    show _ = valD (l.take k ++ [l[k]])
    rw [valD_push]; omega
theorem sits_ext {S : ByteArray} {a b : Nat} (h1 : a ≤ b) (h2 : b ≤ S.size) : Sits S a (lst (S.extract a b)) ∧ (S.extract a b).size = b - a := by
  have hl : lst (S.extract a b) = ((lst S).drop a).take (b - a) := by
    unfold lst
    rw [ByteArray.data_extract]
    simp
  constructor
  · rw [hl]
    have h := sits_self S
    rw [← List.take_append_drop a (lst S)] at h
    have h3 := (sits_app h).2
    rw [List.length_take, lst_len, show min a S.size = a by omega, Nat.zero_add, ← List.take_append_drop (b - a) ((lst S).drop a)] at h3
    exact (sits_app h3).1
  · rw [ByteArray.size_extract]; omega
theorem sits_mem {S : ByteArray} : ∀ {l : List UInt8} {a : Nat}, Sits S a l → ∀ c ∈ l, ∃ k, a ≤ k ∧ k < a + l.length ∧ nx S k = c.toNat
  | x :: l, a, h, c, hc => by
    rcases List.mem_cons.1 hc with rfl | hc
    · exact ⟨a, Nat.le_refl _, by simp, h.1.1⟩
    · obtain ⟨k, k1, k2, k3⟩ := sits_mem h.2 c hc
      exact ⟨k, by omega, by rw [List.length_cons]; omega, k3⟩
/-- The digits that digits reads. -/
theorem dig_ext {S : ByteArray} {a : Nat} (h : digB (nx S a) = true) : Sits S a (lst (S.extract a (dge S a))) ∧ (S.extract a (dge S a)).size = dge S a - a ∧ a < dge S a ∧ dge S a ≤ S.size ∧ ∀ c ∈ lst (S.extract a (dge S a)), digC c := by
  have hin := dig_in h
  have h1 := run_step (q := digB) rfl h
  have h2 := run_ge digB S (a + 1)
  have h3 := run_le digB (S := S) (i := a) (by omega)
  have h4 : a < dge S a := by show a < runF digB S a; omega
  obtain ⟨s1, s2⟩ := sits_ext (S := S) (a := a) (b := dge S a) (by omega) h3
  refine ⟨s1, s2, h4, h3, fun c hc => ?_⟩
  obtain ⟨k, k1, k2, k3⟩ := sits_mem s1 c hc
  rw [lst_len, s2] at k2
  have := run_all (q := digB) k1 (show k < runF digB S a by show k < dge S a; omega)
  rw [k3] at this
  exact dig_bounds this
theorem valD_app (l : List UInt8) : ∀ k : List UInt8, valD (l ++ k) = valD l * 10 ^ k.length + valD k := by
  have key : ∀ (k : List UInt8) (n : Nat), k.foldl (fun a c => 10 * a + (c.toNat - 48)) n = n * 10 ^ k.length + k.foldl (fun a c => 10 * a + (c.toNat - 48)) 0 := by
    intro k
    induction k with
    | nil => intro n; simp
    | cons c k ih =>
      intro n
      rw [List.foldl_cons, List.foldl_cons, ih, ih (10 * 0 + (c.toNat - 48)), List.length_cons, Nat.pow_succ]
      have : (10 * n + (c.toNat - 48)) * 10 ^ k.length = n * (10 ^ k.length * 10) + (10 * 0 + (c.toNat - 48)) * 10 ^ k.length := by
        rw [Nat.add_mul, Nat.mul_zero, Nat.zero_add, Nat.mul_comm 10 n, Nat.mul_assoc, Nat.mul_comm 10]
      omega
  intro k
  unfold valD
  rw [List.foldl_append, key]
theorem fv_val : ∀ pl : List UInt8, pl.length ≤ 4 → valD (pl ++ List.replicate (4 - pl.length) 48) = fv 4 pl
  | [], _ => by decide
  | [c], _ => by simp [valD, fv, List.replicate]; omega
  | [c, d], _ => by simp [valD, fv, List.replicate]; omega
  | [c, d, e], _ => by simp [valD, fv]; omega
  | [c, d, e, f], _ => by simp [valD, fv]; omega
  | _ :: _ :: _ :: _ :: _ :: _, h => by simp at h
theorem valD_lead {l : List UInt8} {c : UInt8} (h1 : digC c) (h2 : c.toNat ≠ 48) : 10 ^ l.length ≤ valD (c :: l) := by
  have : valD ([c] ++ l) = valD [c] * 10 ^ l.length + valD l := valD_app [c] l
  rw [List.singleton_append] at this
  have h3 : 1 ≤ valD [c] := by unfold digC at h1; simp [valD]; omega
  have : 1 * 10 ^ l.length ≤ valD [c] * 10 ^ l.length := Nat.mul_le_mul_right _ h3
  omega
theorem num_tail {S : ByteArray} {i a j e : Nat} {wh pl : ByteArray} (ha : a = numI S i) (hd : digB (nx S a) = true) (hj : j = numJ S a) (hw : Sits S a (lst wh)) (hwz : wh.size = j - a) (hwd : ∀ c ∈ lst wh, digC c)
    (hp : nx S j = 46 ∧ digB (nx S (j + 1)) = true ∧ Sits S (j + 1) (lst pl) ∧ e = j + 1 + pl.size ∧ 1 ≤ pl.size ∧ numZ S j = e ∨ nx S j ≠ 46 ∧ lst pl = [] ∧ e = j) :
    numE S i = tailE (tailN i (nx S i == 45) wh pl) e := by
  have hZ : numZ S j = e ∧ (nx S j = 46 ∧ digB (nx S (j + 1)) = false → False) := by
    rcases hp with ⟨h1, h2, _, _, _, h6⟩ | ⟨h1, _, h3⟩
    · exact ⟨h6, fun h => by rw [h2] at h; exact absurd h.2 (by simp)⟩
    · exact ⟨by unfold numZ; rw [if_neg h1]; exact h3.symm, fun h => h1 h.1⟩
  have hez : e - j = if nx S j = 46 then pl.size + 1 else 0 := by
    rcases hp with ⟨h1, _, _, h4, _⟩ | ⟨h1, _, h3⟩
    · rw [if_pos h1]; omega
    · rw [if_neg h1]; omega
  have hpz : (lst pl).length = pl.size := lst_len pl
  have hwl : (lst wh).length = wh.size := lst_len wh
  rw [numE_k, ← ha, if_neg (by rw [hd]; simp), ← hj, if_neg hZ.2, hZ.1]
  have hdig : digN S a (j - a) = valD (lst wh) := by
    rw [digN_val hw (j - a) (by omega), List.take_of_length_le (by omega)]
  have hbad : tailN i (nx S i == 45) wh pl = .error (1, (i : Int)) → numK S i a j e = .error (1, (i : Int)) → numK S i a j e = tailE (tailN i (nx S i == 45) wh pl) e := fun h1 h2 => by rw [h1, h2]; rfl
  by_cases hp4 : 4 < pl.size
  · refine hbad (by unfold tailN; rw [if_pos (.inr hp4)]) ?_
    unfold numK
    rw [if_pos (.inl (by
      rw [hez]
      rcases hp with ⟨h1, _⟩ | ⟨_, h2, _⟩
      · rw [if_pos h1]; omega
      · rw [h2] at hpz; simp at hpz; omega))]
  have hez5 : ¬ 5 < e - j := by rw [hez]; split <;> omega
  have hfr : fracN S (j + 1) e (valD (lst wh)) 4 = valD (lst wh) * 10000 + fv 4 (lst pl) := by
    rcases hp with ⟨_, _, h3, h4, _⟩ | ⟨_, h2, h3⟩
    · rw [h4, ← hpz]
      exact frac_read (lst pl) (by omega) h3
    · rw [fracN_none (by omega), h2]; simp [fv]
  have hval : valD (lst wh ++ (lst pl ++ List.replicate (4 - pl.size) 48)) = valD (lst wh) * 10000 + fv 4 (lst pl) := by
    rw [valD_app, ← hpz, fv_val (lst pl) (by omega), List.length_append, List.length_replicate, show (lst pl).length + (4 - (lst pl).length) = 4 by omega]
  by_cases hw12 : 12 < wh.size
  · refine hbad (by unfold tailN; rw [if_pos (.inl hw12)]) ?_
    unfold numK
    by_cases hw15 : 15 < j - a
    · rw [if_pos (.inr hw15)]
    · rw [if_neg (by omega), hdig, hfr]
      have hbig : 1000000000000000 < valD (lst wh) * 10000 + fv 4 (lst pl) := by
        cases hl : lst wh with
        | nil => rw [hl] at hwl; simp at hwl; omega
        | cons c l =>
          have hc := hwd c (by rw [hl]; exact List.mem_cons_self ..)
          have hc48 : c.toNat ≠ 48 := fun h48 => by
            rw [hl] at hw
            have : nx S a = 48 := by rw [hw.1.1]; exact h48
            have hj2 : j = a + 1 := by rw [hj]; unfold numJ; rw [if_pos this]
            omega
          have h1 := valD_lead (l := l) hc hc48
          have h2 : 10 ^ 12 ≤ 10 ^ l.length := Nat.pow_le_pow_right (by decide) (by rw [hl, List.length_cons] at hwl; omega)
          have h3 : (10 : Nat) ^ 12 = 1000000000000 := by decide
          omega
      rw [if_pos hbig]
  · by_cases hb : 1000000000000000 < valD (lst wh) * 10000 + fv 4 (lst pl)
    · refine hbad (by unfold tailN; rw [if_neg (by omega), hval, if_pos hb]) ?_
      unfold numK
      rw [if_neg (by omega), hdig, hfr, if_pos hb]
    · have ht : tailN i (nx S i == 45) wh pl = .ok (if (nx S i == 45) = true then -((valD (lst wh) * 10000 + fv 4 (lst pl) : Nat) : Int) else ((valD (lst wh) * 10000 + fv 4 (lst pl) : Nat) : Int)) := by
        unfold tailN; rw [if_neg (by omega), hval, if_neg hb]
      rw [ht]
      unfold numK tailE
      rw [if_neg (by omega), hdig, hfr, if_neg hb]
      by_cases h45 : nx S i = 45
      · have : a = i + 1 := by rw [ha]; unfold numI; rw [if_pos h45]
        rw [if_neg (by omega), h45]; simp
      · have : a = i := by rw [ha]; unfold numI; rw [if_neg h45]
        have hb2 : (nx S i == 45) = false := by simpa using h45
        rw [if_pos this, hb2]; simp
/-- The values of digits. -/
theorem valD_lt : ∀ (l : List UInt8), (∀ c ∈ l, digC c) → valD l < 10 ^ l.length := by
  intro l
  have key : ∀ k, k ≤ l.length → (∀ c ∈ l, digC c) → valD (l.take k) < 10 ^ k := by
    intro k
    induction k with
    | zero => intro _ _; show 0 < 1; omega
    | succ k ih =>
      intro hk hd
      have hc : l[k]? = some l[k] := List.getElem?_eq_getElem (by omega)
      rw [List.take_add_one, hc]
      show valD (l.take k ++ [l[k]]) < _
      have h1 := ih (by omega) hd
      have h2 := hd l[k] (List.getElem_mem _)
      unfold digC at h2
      rw [valD_push, Nat.pow_succ]; omega
  intro hd
  have := key l.length (Nat.le_refl _) hd
  rw [List.take_length] at this
  exact this
end Go.Proofs.YtmmbbndoimleaaaGreatDoor

/- short, quoted, line of package jsontext. -/
namespace Go.Proofs.YtmmbbndoimleaaaGreatDoor
open Go.RowKit Go.Shelf

theorem ret_sh {a b : Int} {p q : Bool} (h1 : a = b) (h2 : p = q) : Ending.returned (.tuple #[.int .u8 a, .bool p]) = .returned (.tuple #[.int .u8 b, .bool q]) := by rw [h1, h2]
theorem jsh_lt (c : Nat) (hc : c < 256) : jshN c < 256 := by
  unfold jshN; split
  · exact hc
  · split
    · omega
    split
    · omega
    split
    · omega
    split
    · omega
    split <;> omega
set_option maxHeartbeats 1000000 in
theorem jshort_run (c : Nat) (w : World) :
    Calls Tryz.prog 77 #[.int .u8 c] w fun e w' => e = .returned (.tuple #[.int .u8 (jshN c), .bool (decide (jshN c ≠ 0))]) ∧ w = w' := by
  by_cases h34 : c = 34
  · subst h34
    go_enter Tryz.func77, Tryz.ntmps77
    go_wp2_with fail
    go_ret2
    exact ⟨rfl, rfl⟩
  by_cases h92 : c = 92
  · subst h92
    go_enter Tryz.func77, Tryz.ntmps77
    go_wp2_with fail
    go_ret2
    exact ⟨rfl, rfl⟩
  by_cases h8 : c = 8
  · subst h8
    go_enter Tryz.func77, Tryz.ntmps77
    go_wp2_with fail
    go_ret2
    exact ⟨rfl, rfl⟩
  by_cases h9 : c = 9
  · subst h9
    go_enter Tryz.func77, Tryz.ntmps77
    go_wp2_with fail
    go_ret2
    exact ⟨rfl, rfl⟩
  by_cases h10 : c = 10
  · subst h10
    go_enter Tryz.func77, Tryz.ntmps77
    go_wp2_with fail
    go_ret2
    exact ⟨rfl, rfl⟩
  by_cases h12 : c = 12
  · subst h12
    go_enter Tryz.func77, Tryz.ntmps77
    go_wp2_with fail
    go_ret2
    exact ⟨rfl, rfl⟩
  by_cases h13 : c = 13
  · subst h13
    go_enter Tryz.func77, Tryz.ntmps77
    go_wp2_with fail
    go_ret2
    exact ⟨rfl, rfl⟩
  have e : jshN c = 0 := by
    unfold jshN
    rw [if_neg (by omega), if_neg h8, if_neg h9, if_neg h10, if_neg h12, if_neg h13]
  rw [e]
  have g1 : ((c : Int) == 34) = false := by simp; omega
  have g2 : ((c : Int) == 92) = false := by simp; omega
  have g3 : ((c : Int) == 8) = false := by simp; omega
  have g4 : ((c : Int) == 9) = false := by simp; omega
  have g5 : ((c : Int) == 10) = false := by simp; omega
  have g6 : ((c : Int) == 12) = false := by simp; omega
  have g7 : ((c : Int) == 13) = false := by simp; omega
  go_enter Tryz.func77, Tryz.ntmps77
  go_wp2_with fail
  go_ret2
  exact ⟨rfl, rfl⟩

theorem rep9 : ∀ c, Lib.repeatL [9] c = List.replicate c 9
  | 0 => rfl
  | c + 1 => by unfold Lib.repeatL; rw [rep9 c]; rfl
theorem repExtra : Builder.Extra Tryz.prog repeatL_ren where
  sizeBuilder := by kernel_rfl
  liesBuilder := by kernel_rfl
  t5 := Tryz.underlying5
  a5 := Tryz.isAgg5
  z5 := Tryz.sizeOf5
  v5 := Tryz.zeroValue5
  infoByte := by kernel_rfl
  cellsByte := by kernel_rfl
  sizeByte := by kernel_rfl
  neB5 := by decide
theorem repeat_run (c : Nat) (hc : c ≤ 1000) (w : World) :
    Calls Tryz.prog 79 #[.string ⟨#[9]⟩, .int .i64 c] w fun e w' => e = .returned (.string ⟨(List.replicate c 9).toArray⟩) ∧ Below w.heap.size w w' := by
  have := Any.strings_Repeat repeatL repExtra ⟨#[9]⟩ c w (by omega) (by show 1 * c ≤ _; omega)
  rw [show (⟨#[9]⟩ : ByteArray).data.toList = [9] from rfl, rep9] at this
  exact this
set_option maxHeartbeats 1000000 in
theorem line_run (b : Bool) (lv : Nat) (hlv : lv ≤ 1000) (w : World) :
    Calls Tryz.prog 60 #[.agg #[.bool b], .int .i64 lv] w fun e w' => e = .returned (.string (lineB b lv)) ∧ Below w.heap.size w w' := by
  have HR := hide fun W => repeat_run lv hlv W
  cases b with
  | false =>
    go_enter Tryz.func60, Tryz.ntmps60
    go_wp2_with fail
    go_ret
    exact ⟨rfl, (Below.refl _ _).alloc (Nat.le_refl _) _⟩
  | true =>
    obtain ⟨T, hT⟩ : ∃ T : ByteArray, T = ⟨(List.replicate lv 9).toArray⟩ := ⟨_, rfl⟩
    have hTs : T.size = lv := by rw [hT]; show (List.replicate lv (9 : UInt8)).toArray.size = lv; simp
    have HE := hide (show lineB true lv = ⟨#[10]⟩ ++ T by
      rw [hT]; unfold lineB; rw [if_pos rfl]
      apply ByteArray.ext
      rw [ByteArray.data_append]
      apply Array.toList_inj.1
      simp)
    rw [← hT] at HR
    clear hT
    go_enter Tryz.func60, Tryz.ntmps60
    go_wp2_with fail
    refine (HR.out _).mono ?_; rintro e w1 ⟨rfl, hB⟩
    have HB := hide (((Below.refl w.heap.size w).alloc (Nat.le_refl _) (.cells #[.bool true] 42)).trans (hB.mono (by simp)))
    clear hB
    go_wp2_with fail
    go_ret
    exact ⟨ret_str HE.out.symm, HB.out⟩
end Go.Proofs.YtmmbbndoimleaaaGreatDoor

/- quoted of package jsontext. -/
namespace Go.Proofs.YtmmbbndoimleaaaGreatDoor
open Go.RowKit

theorem jqS_append (a b : List UInt8) : jqS (a ++ b) = jqS a ++ jqS b := by unfold jqS; exact List.flatMap_append
theorem ByR.size {w : World} {b : Nat} {u : Value} {l k : List UInt8} (h : ByR w b u l) (e : l = k) : ByR w b u k := e ▸ h
theorem byR_app {w : World} {b n : Nat} {u : Value} {l k : List UInt8} (h : w.ownsRow b 5 1 u n (byL l ++ byL k)) (hn : n = l.length + k.length) : ByR w b u (l ++ k) := by
  unfold ByR
  rw [byL_app, List.length_append, ← hn]; exact h
theorem byte_idx (h : Nat) (hh : h < 16) (k : IntKind) (W : World) :
    (Instr.index 9 (.string ⟨#[48, 49, 50, 51, 52, 53, 54, 55, 56, 57, 97, 98, 99, 100, 101, 102]⟩) (.int k (h : Int))).run Tryz.prog W = .ok (.int .u8 ((hexN h).toNat : Int)) W := by
  have : ∀ h : Fin 16, (Instr.index 9 (.string ⟨#[48, 49, 50, 51, 52, 53, 54, 55, 56, 57, 97, 98, 99, 100, 101, 102]⟩) (.int k ((h : Nat) : Int))).run Tryz.prog W = .ok (.int .u8 ((hexN h).toNat : Int)) W := by
    intro h
    obtain ⟨h, hh⟩ := h
    match h, hh with
    | 0, _ => go_simp; rfl
    | 1, _ => go_simp; rfl
    | 2, _ => go_simp; rfl
    | 3, _ => go_simp; rfl
    | 4, _ => go_simp; rfl
    | 5, _ => go_simp; rfl
    | 6, _ => go_simp; rfl
    | 7, _ => go_simp; rfl
    | 8, _ => go_simp; rfl
    | 9, _ => go_simp; rfl
    | 10, _ => go_simp; rfl
    | 11, _ => go_simp; rfl
    | 12, _ => go_simp; rfl
    | 13, _ => go_simp; rfl
    | 14, _ => go_simp; rfl
    | 15, _ => go_simp; rfl
    | n + 16, h => omega
  exact this ⟨h, hh⟩
theorem byL_ints : ∀ l : List UInt8, byL l = l.map fun b => Value.int .u8 ((b.toNat : Nat) : Int) := fun _ => rfl

set_option maxRecDepth 20000 in
set_option maxHeartbeats 4000000 in
theorem quoted_run (S : ByteArray) (hS : S.size ≤ 166700000) (w : World) :
    Calls Tryz.prog 58 #[.string S] w fun e w' => e = .returned (.string (jqB S)) ∧ Below w.heap.size w w' := by
  obtain ⟨i0, hi0, hz0, hz1, hz2⟩ := info_parts infoB
  have HSH := hide fun c W => jshort_run c W
  obtain ⟨N, hN⟩ : ∃ n, n = S.size := ⟨_, rfl⟩
  have HNN := Lib.hid hN
  rw [← hN] at hS
  have HLE := Lib.hid (show S.data.toList.length = S.size from Array.length_toList)
  clear hN
  go_enter Tryz.func58, Tryz.ntmps58
  go_upto_region 2 with fail
  have HR0 := hide (show ByR (w.alloc (.cells #[.int .u8 34] 5)) w.heap.size (.slice (some ⟨w.heap.size, 0, none⟩) 1 1) (34 :: jqS (S.data.toList.take 0)) from by
    have h0 : (w.alloc (.cells #[.int .u8 34] 5)).ownsRow w.heap.size 5 1 (.slice (some ⟨w.heap.size, 0, none⟩) 1 1) 1 (byL [34]) :=
      ⟨rfl, .inr ⟨w.heap.size, 1, #[Value.int .u8 34], rfl, Nat.le_refl _, heap_alloc_new w _, by omega, by simp [maxLen], rfl, rfl⟩⟩
    exact h0)
  have HB0 := hide ((Below.refl w.heap.size w).alloc (Nat.le_refl _) (.cells #[.int .u8 34] 5))
  obtain ⟨w0, hw0⟩ : ∃ W, W = w.alloc (.cells #[.int .u8 34] 5) := ⟨_, rfl⟩
  rw [← hw0] at HR0 HB0 ⊢
  clear hw0
  go_wp2_with fail
  rw [← HNN.out]
  go_loopw [3, 11] (fun uv iv wr => ∃ i : Nat, iv = .int .i64 i ∧ i ≤ N ∧ Hid (Below w.heap.size w wr) ∧ Hid (ByR wr w.heap.size uv (34 :: jqS (S.data.toList.take i)))) (fun _ iv _ => N - (intOf iv).toNat)
  case atStart => exact ⟨0, rfl, Nat.zero_le _, HB0, HR0⟩
  case round =>
    clear HB0 HR0
    obtain ⟨i, rfl, hi, hB, hO⟩ := hrel
    by_cases hlt : i < N
    · have hlt' : i < S.size := by rw [← HNN.out]; exact hlt
      obtain ⟨c, hc⟩ : ∃ c, c = S[i] := ⟨_, rfl⟩
      have hcl : S.data.toList[i]? = some c := by
        rw [hc, List.getElem?_eq_getElem (by rw [HLE.out]; exact hlt')]; rfl
      have HXX := hide (show 34 :: jqS (S.data.toList.take (i + 1)) = (34 :: jqS (S.data.toList.take i)) ++ jqL c.toNat by
        rw [List.take_add_one, hcl, jqS_append]; simp [jqS])
      have hLL : (34 :: jqS (S.data.toList.take i)).length ≤ 1 + 6 * i := by
        have := jqS_len (S.data.toList.take i)
        have h2 : (S.data.toList.take i).length ≤ i := by rw [List.length_take]; omega
        rw [List.length_cons]; omega
      obtain ⟨L, hL⟩ : ∃ L, L = 34 :: jqS (S.data.toList.take i) := ⟨_, rfl⟩
      rw [← hL] at HXX hLL hO
      have hS2 : S[i] = c := hc.symm
      obtain ⟨n, hn⟩ : ∃ n, n = c.toNat := ⟨_, rfl⟩
      have hn2 : n < 256 := by rw [hn]; exact c.toNat_lt
      rw [← hn] at HXX
      have HN1 := Lib.hid hn
      have hSH := HSH.out n
      obtain ⟨q, hq⟩ : ∃ q, q = jshN n := ⟨_, rfl⟩
      rw [← hq] at hSH
      have hq2 : q < 256 := by rw [hq]; exact jsh_lt n hn2
      have HQ := Lib.hid hq
      have HS1 := hide hSH
      have hbs := hB.out.size
      clear hq hc hcl hL hn hSH
      by_cases hq0 : q = 0
      · subst hq0
        rw [show decide ((0 : Nat) ≠ 0) = false from rfl] at HS1
        go_wp2_with fail
        rw [← HN1.out]
        go_wp2_with fail
        refine (HS1.out _).mono ?_; rintro e w1 ⟨rfl, rfl⟩
        by_cases h126 : n < 32 ∨ 126 < n
        · have HXL := hide (show jqL n = [92, 117, 48, 48, hexN (n / 16), hexN (n % 16)] by unfold jqL; rw [← HQ.out, if_neg (by simp), if_pos h126])
          obtain ⟨hi2, hhi⟩ : ∃ hi, hi = n / 16 := ⟨_, rfl⟩
          obtain ⟨lo, hlo⟩ : ∃ hi, hi = n % 16 := ⟨_, rfl⟩
          have e1 : (n : Int) / 16 = (hi2 : Int) := by omega
          have e2 : bits BinOp.and IntKind.u8 (n : Int) 15 = (lo : Int) := by rw [and15 n hn2, hlo]
          have l1 : hi2 < 16 := by omega
          have l2 : lo < 16 := by omega
          have hs1 := fun W => byte_idx hi2 l1 .u8 W
          have hs2 := fun W => byte_idx lo l2 .u8 W
          rw [← hhi, ← hlo] at HXL
          have hg : (decide ((n : Int) < 32) = true ∧ True) ∨ (decide ((n : Int) < 32) = false ∧ decide ((n : Int) > 126) = true) := by
            rcases h126 with h | h
            · exact .inl ⟨by simp; omega, trivial⟩
            · exact .inr ⟨by simp; omega, by simp; omega⟩
          clear hhi hlo h126
          rcases hg with ⟨g6, g7⟩ | ⟨g6, g7⟩
          all_goals
            go_upto_region 10 with fail
            refine region_two 8 (fun _ => True) (by kernel_rfl) (by kernel_rfl) trivial (fun hH => ?_)
            obtain ⟨wd, hwd⟩ : ∃ W, W = wr.drew := ⟨_, rfl⟩
            have HB1 := hide (show Below w.heap.size w wd by rw [hwd]; exact hB.out.drew)
            have HO1 := hide (show ByR wd w.heap.size u3 L by rw [hwd]; exact hO.out.below (Below.refl _ _).drew)
            have hbs1 := HB1.out.size
            rw [← hwd]
            clear hwd hB hO hbs
            simp only [List.take_succ_cons, List.take_zero]
            refine takeH (i := 0) (v := ?_) rfl (by kernel_rfl) (by kernel_rfl) (by kernel_rfl) (fun _ _ _ h => h) (Or.inl ⟨by rfl, ?_⟩) hH ?_
            rotate_left
            · (intro w hSw; (try dsimp only at hSw); go_simp; try with_reducible rfl)
            simp only [Act.put, List.setIfInBounds_toArray, List.set_cons_zero, List.set_cons_succ]
            refine takeH (i := 1) (v := ?_) rfl (by kernel_rfl) (by kernel_rfl) (by kernel_rfl) (fun _ _ _ h => h) (Or.inl ⟨by rfl, ?_⟩) hH ?_
            rotate_left
            · (intro w hSw; (try dsimp only at hSw); go_simp; try with_reducible rfl)
            simp only [Act.put, List.setIfInBounds_toArray, List.set_cons_zero, List.set_cons_succ]
            refine takeH (i := 2) (v := ?_) rfl (by kernel_rfl) (by kernel_rfl) (by kernel_rfl) (fun _ _ _ h => h) (Or.inl ⟨by rfl, ?_⟩) hH ?_
            rotate_left
            · (intro w hSw; (try dsimp only at hSw); go_simp; try with_reducible rfl)
            simp only [Act.put, List.setIfInBounds_toArray, List.set_cons_zero, List.set_cons_succ]
            refine takeH (i := 3) (v := ?_) rfl (by kernel_rfl) (by kernel_rfl) (by kernel_rfl) (fun _ _ _ h => h) (Or.inl ⟨by rfl, ?_⟩) hH ?_
            rotate_left
            · (intro w hSw; (try dsimp only at hSw); go_simp; try with_reducible rfl)
            simp only [Act.put, List.setIfInBounds_toArray, List.set_cons_zero, List.set_cons_succ]
            refine takeH (i := 4) (v := ?_) rfl (by kernel_rfl) (by kernel_rfl) (by kernel_rfl) (fun _ _ _ h => h) (Or.inl ⟨by rfl, ?_⟩) hH ?_
            rotate_left
            · (intro w hSw; (try dsimp only at hSw); go_simp; try with_reducible rfl)
            simp only [Act.put, List.setIfInBounds_toArray, List.set_cons_zero, List.set_cons_succ]
            refine takeH (i := 5) (v := ?_) rfl (by kernel_rfl) (by kernel_rfl) (by kernel_rfl) (fun _ _ _ h => h) (Or.inl ⟨by rfl, ?_⟩) hH ?_
            rotate_left
            · (intro w hSw; (try dsimp only at hSw); go_simp; try with_reducible rfl)
            simp only [Act.put, List.setIfInBounds_toArray, List.set_cons_zero, List.set_cons_succ]
            refine takeH (i := 6) (v := ?_) rfl (by kernel_rfl) (by kernel_rfl) (by kernel_rfl) (fun _ _ _ h => h) (Or.inl ⟨by rfl, ?_⟩) hH ?_
            rotate_left
            · (intro w hSw; (try dsimp only at hSw); go_simp; try with_reducible rfl)
            simp only [Act.put, List.setIfInBounds_toArray, List.set_cons_zero, List.set_cons_succ]
            refine oneH (i := 7) rfl (by kernel_rfl) (fun K hK => ?_)
            go_simp
            refine hK.out _ _ trivial (fun hH => ?_)
            clear hK K
            refine wpAnyH_done (by kernel_rfl) ?_ _
            unfold TailPost
            simp only [List.drop_succ_cons, List.drop_zero]
            clear hs1 hs2 hH
            go_wp2_with (at_builtin; refine wpList_append_all _ rfl (.tmp 33) (.tmp 40) _ rfl w.heap.size 5 i0 _ 1 1 Tryz.underlying73 hi0 hz0 hz1 hz2 rfl (by omega) u3 L.length (byL L) rfl (HO1.out.alloc _) (some ⟨wd.heap.size, 0, none⟩) 6 6 (byL [92, 117, 48, 48, hexN hi2, hexN lo]) rfl (by intro h; cases h) rfl (by intro ad' h; injection h with h; subst h; exact World.news_of_block (heap_alloc_new _ _)) (byL_one _) (by unfold maxLen; omega) (by omega) (by simp; omega) ?_)
            intro v5 w5 o1 o2
            have HB5 := hide (Below.grown (HB1.out.alloc hbs1 (.cells (byL [92, 117, 48, 48, hexN hi2, hexN lo]).toArray 5)) o2.out (Nat.le_trans hbs1 (by simp)) (fun k e => (HO1.out.lt k e).1))
            have HO5 := hide (show ByR w5 w.heap.size v5 (34 :: jqS (S.data.toList.take (i + 1))) by rw [HXX.out, HXL.out]; exact byR_app o1.out rfl)
            clear o1 o2 HO1 HB1
            go_wp2_with fail
            go_roundw
            case rel => exact ⟨i + 1, by go_num, by omega, HB5, HO5⟩
            case measure => simp [intOf]; omega
        · have HXL := hide (show jqL n = [UInt8.ofNat n] by unfold jqL; rw [← HQ.out, if_neg (by simp), if_neg h126])
          have g6 : decide ((n : Int) < 32) = false := by simp; omega
          have g7 : decide ((n : Int) > 126) = false := by simp; omega
          clear h126
          go_wp2_with (at_builtin; refine wpList_append_all _ rfl (.tmp 42) (.tmp 44) _ rfl w.heap.size 5 i0 _ 1 1 Tryz.underlying73 hi0 hz0 hz1 hz2 rfl (by omega) u3 L.length (byL L) rfl (hO.out.alloc _) (some ⟨wr.heap.size, 0, none⟩) 1 1 [.int .u8 (n : Int)] rfl (by intro h; cases h) rfl (by intro ad' h; injection h with h; subst h; exact World.news_of_block (heap_alloc_new _ _)) (by simp [Value.oneCell']) (by unfold maxLen; omega) (by omega) (by simp; omega) ?_)
          intro v5 w5 o1 o2
          have HB5 := hide (Below.grown (hB.out.alloc hbs (.cells [.int .u8 (n : Int)].toArray 5)) o2.out (Nat.le_trans hbs (by simp)) (fun k e => (hO.out.lt k e).1))
          have HO5 := hide (show ByR w5 w.heap.size v5 (34 :: jqS (S.data.toList.take (i + 1))) by
            rw [HXX.out, HXL.out]
            have e2 : [.int .u8 (n : Int)] = byL [UInt8.ofNat n] := by unfold byL; simp; omega
            rw [e2] at o1
            exact byR_app o1.out rfl)
          clear o1 o2 hO hB
          go_wp2_with fail
          go_roundw
          case rel => exact ⟨i + 1, by go_num, by omega, HB5, HO5⟩
          case measure => simp [intOf]; omega
      · have HXL := hide (show jqL n = [92, UInt8.ofNat q] by unfold jqL; rw [← HQ.out, if_pos hq0])
        rw [show decide (q ≠ 0) = true by simpa using hq0] at HS1
        go_wp2_with fail
        rw [← HN1.out]
        go_wp2_with fail
        refine (HS1.out _).mono ?_; rintro e w1 ⟨rfl, rfl⟩
        go_wp2_with (at_builtin; refine wpList_append_all _ rfl (.tmp 23) (.tmp 25) _ rfl w.heap.size 5 i0 _ 1 1 Tryz.underlying73 hi0 hz0 hz1 hz2 rfl (by omega) u3 L.length (byL L) rfl (hO.out.alloc _) (some ⟨wr.heap.size, 0, none⟩) 2 2 [.int .u8 92, .int .u8 (q : Int)] rfl (by intro h; cases h) rfl (by intro ad' h; injection h with h; subst h; exact World.news_of_block (heap_alloc_new _ _)) (by simp [Value.oneCell']) (by unfold maxLen; omega) (by omega) (by simp; omega) ?_)
        intro v5 w5 o1 o2
        have HB5 := hide (Below.grown (hB.out.alloc hbs (.cells [.int .u8 92, .int .u8 (q : Int)].toArray 5)) o2.out (Nat.le_trans hbs (by simp)) (fun k e => (hO.out.lt k e).1))
        have HO5 := hide (show ByR w5 w.heap.size v5 (34 :: jqS (S.data.toList.take (i + 1))) by
          rw [HXX.out, HXL.out]
          have e2 : [.int .u8 92, .int .u8 (q : Int)] = byL [92, UInt8.ofNat q] := by unfold byL; simp; omega
          rw [e2] at o1
          exact byR_app o1.out rfl)
        clear o1 o2 hO hB
        go_wp2_with fail
        go_roundw
        case rel => exact ⟨i + 1, by go_num, by omega, HB5, HO5⟩
        case measure => simp [intOf]; omega
    · obtain rfl : N = i := by omega
      have e3 : S.data.toList.take N = S.data.toList := by rw [HNN.out, ← HLE.out, List.take_length]
      have HO1 := hide (show ByR wr w.heap.size u3 (34 :: jqS S.data.toList) by have := hO.out; rw [e3] at this; exact this)
      have hLL : (34 :: jqS S.data.toList).length ≤ 1 + 6 * N := by
        have := jqS_len S.data.toList
        have h2 := HLE.out
        have h3 := HNN.out
        rw [List.length_cons]; omega
      obtain ⟨L, hL⟩ : ∃ L, L = 34 :: jqS S.data.toList := ⟨_, rfl⟩
      have HJ := hide (show jqB S = ⟨(L ++ [34]).toArray⟩ by rw [hL]; rfl)
      rw [← hL] at HO1 hLL
      have hbs := hB.out.size
      clear hL e3 hO hlt
      go_wp2_with (at_builtin; refine wpList_append_all _ rfl (.tmp 47) (.tmp 48) _ rfl w.heap.size 5 i0 _ 1 1 Tryz.underlying73 hi0 hz0 hz1 hz2 rfl (by omega) u3 L.length (byL L) rfl (HO1.out.alloc _) (some ⟨wr.heap.size, 0, none⟩) 1 1 [.int .u8 34] rfl (by intro h; cases h) rfl (by intro ad' h; injection h with h; subst h; exact World.news_of_block (heap_alloc_new _ _)) (by simp [Value.oneCell']) (by unfold maxLen; omega) (by omega) (by simp; omega) ?_)
      intro v5 w5 o1 o2
      have HB5 := hide (Below.grown (hB.out.alloc hbs (.cells #[.int .u8 34] 5)) o2.out (Nat.le_trans hbs (by simp)) (fun k e => (HO1.out.lt k e).1))
      have hcv := conv_row (show ByR w5 w.heap.size v5 (L ++ [34]) from byR_app o1.out rfl)
      clear o1 o2 HO1 hB
      go_wp2_with fail
      go_ret
      exact ⟨ret_str HJ.out.symm, HB5.out⟩
end Go.Proofs.YtmmbbndoimleaaaGreatDoor
