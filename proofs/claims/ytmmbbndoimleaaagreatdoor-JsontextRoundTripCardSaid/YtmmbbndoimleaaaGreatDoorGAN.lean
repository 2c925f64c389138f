/- hex of the reference's reader; escape of the reference's reader; str of the reference's reader; short, line, quote of the reference; strings.Join by a comma; the facts on texts that the printer's walk leans on; What the reference's printer lays down, plain. -/
import Derived.Test.YtmmbbndoimleaaaGreatDoorGAM
import Derived.Test.YtmmbbndoimleaaaGreatDoorGAF

/- hex of the reference's reader. -/
namespace Go.Proofs.YtmmbbndoimleaaaGreatDoor
open Go.RowKit

def HexPost (g : Nat) (S : ByteArray) (i : Nat) (w : World) (r : Option Nat) (e : Ending) (w' : World) : Prop :=
  match r with
  | some v => e = .returned (.int .i64 v) ∧ Rdr w' g S (i + 1) (0, 0) ∧ Px g w w'
  | none => e = .returned (.int .i64 0) ∧ Rdr w' g S i (19, (i : Int)) ∧ Px g w w'
set_option maxRecDepth 20000 in
set_option maxHeartbeats 1000000 in
theorem rhex_bad (S : ByteArray) (g i : Nat) (f : Flt) (w : World) (h : Rdr w g S i f) (hf : f.1 ≠ 0) :
    Calls Tryz.prog 91 #[.pointer (some ⟨g, 0, none⟩)] w fun e w' => e = .returned (.int .i64 0) ∧ Rdr w' g S i f ∧ Px g w w' := by
  have HM := hide fun V (h : Rdr V g S i f) => more_run S g i f V h
  have HF := hide fun V (h : Rdr V g S i f) => rfail_run S g i f 19 (i : Nat) V h
  have em : moreB S i f = false := by
    unfold moreB
    have : (f.1 == 0) = false := by simpa using hf
    rw [this]; rfl
  rw [em] at HM
  unfold keepF at HF
  rw [if_neg hf] at HF
  have HP := hide h
  clear em hf h
  go_enter Tryz.func91, Tryz.ntmps91
  go_wp2_with fail
  refine (HM.out _ HP.out).mono ?_; rintro e w1 ⟨rfl, n1, rfl⟩
  obtain ⟨c0, c1, c2, c3⟩ := (HP.out.drewN n1).cells
  go_wp2_with fail
  refine (HF.out _ (HP.out.drewN n1)).mono ?_; rintro e w2 ⟨rfl, hr, hx⟩
  have HR := hide hr
  have HX := hide ((Px.refl.drewN n1).trans hx)
  clear hr hx c0 c1 c2 c3
  go_wp2_with fail
  go_ret
  exact ⟨rfl, HR.out, HX.out⟩
theorem hex_cases {c : Nat} : (digB c = true ∧ hexV c = some (c - 48)) ∨ (97 ≤ c ∧ c ≤ 102 ∧ hexV c = some (c - 87)) ∨ (65 ≤ c ∧ c ≤ 70 ∧ hexV c = some (c - 55)) ∨ (¬ (48 ≤ c ∧ c ≤ 57) ∧ ¬ (97 ≤ c ∧ c ≤ 102) ∧ ¬ (65 ≤ c ∧ c ≤ 70) ∧ hexV c = none) := by
  unfold hexV
  by_cases h1 : digB c = true
  · exact .inl ⟨h1, by rw [if_pos h1]⟩
  rw [if_neg h1]
  have h1' : ¬ (48 ≤ c ∧ c ≤ 57) := fun h => h1 (by unfold digB; simp; omega)
  by_cases h2 : 97 ≤ c ∧ c ≤ 102
  · exact .inr (.inl ⟨h2.1, h2.2, by rw [if_pos h2]⟩)
  rw [if_neg h2]
  by_cases h3 : 65 ≤ c ∧ c ≤ 70
  · exact .inr (.inr (.inl ⟨h3.1, h3.2, by rw [if_pos h3]⟩))
  · rw [if_neg h3]; exact .inr (.inr (.inr ⟨h1', h2, h3, rfl⟩))
set_option maxRecDepth 20000 in
set_option maxHeartbeats 2000000 in
theorem rhex_run (S : ByteArray) (g i : Nat) (w : World) (h : Rdr w g S i (0, 0)) (hS : S.size ≤ 1000000000) :
    Calls Tryz.prog 91 #[.pointer (some ⟨g, 0, none⟩)] w (HexPost g S i w (hexV (nx S i))) := by
  have HM := hide fun V (h : Rdr V g S i (0, 0)) => more_run S g i (0, 0) V h
  have HF := hide fun V (h : Rdr V g S i (0, 0)) => rfail_run S g i (0, 0) 19 (i : Nat) V h
  have HP := hide h
  obtain ⟨r, hr⟩ : ∃ r, r = hexV (nx S i) := ⟨_, rfl⟩
  rw [← hr]
  by_cases his : i < S.size
  · have em : moreB S i (0, 0) = true := by unfold moreB; simpa using his
    rw [em] at HM
    obtain ⟨x, hx⟩ : ∃ x, x = (S[i]).toNat := ⟨_, rfl⟩
    have hx2 : x < 256 := by rw [hx]; exact (S[i]).toNat_lt
    have hS2 : (S[i]).toNat = x := hx.symm
    rw [show nx S i = x by rw [hx]; exact nx_at his] at hr
    clear hx em h
    rcases hex_cases (c := x) with ⟨h1, h2⟩ | ⟨h1, h1', h2⟩ | ⟨h1, h1', h2⟩ | ⟨h1, h1', h1'', h2⟩
    · rw [h2] at hr
      subst hr
      obtain ⟨k1, k2⟩ := dig_bounds h1
      have w1 : IntKind.u8.wrap ((x : Int) - 48) = ((x - 48 : Nat) : Int) := by rw [IntKind.wrap_u8]; omega
      have d1 : decide ((48 : Int) ≤ (x : Int)) = true := by simp; omega
      have d2 : decide ((x : Int) ≤ 57) = true := by simp; omega
      clear h1 h2
      go_enter Tryz.func91, Tryz.ntmps91
      go_wp2_with fail
      refine (HM.out _ HP.out).mono ?_; rintro e wz ⟨rfl, n1, hwz⟩
      have HPz := hide (show Rdr wz g S i (0, 0) by rw [hwz]; exact HP.out.drewN _)
      have HXz := hide (show Px g w wz by rw [hwz]; exact Px.refl.drewN _)
      clear hwz HP
      obtain ⟨c0, c1, c2, c3⟩ := HPz.out.cells
      obtain ⟨f1, f2, f3⟩ := HPz.out.free
      go_wp2_with fail
      go_quiet (fail)
      go_wp2_with fail
      go_ret
      exact ⟨ret_int (by omega), (HPz.out.drewN _).set_ (i + 1), (HXz.out.drewN _).set_ 1 _⟩
    · rw [h2] at hr
      subst hr
      have w1 : IntKind.u8.wrap ((x : Int) - 97) = ((x - 97 : Nat) : Int) := by rw [IntKind.wrap_u8]; omega
      have w2 : IntKind.i64.wrap (((x - 97 : Nat) : Int) + 10) = ((x - 87 : Nat) : Int) := by rw [IntWalk.i64_in _ (by omega)]; omega
      have d1 : decide ((48 : Int) ≤ (x : Int)) = true := by simp; omega
      have d2 : decide ((x : Int) ≤ 57) = false := by simp; omega
      have d3 : decide ((97 : Int) ≤ (x : Int)) = true := by simp; omega
      have d4 : decide ((x : Int) ≤ 102) = true := by simp; omega
      clear h2
      go_enter Tryz.func91, Tryz.ntmps91
      go_wp2_with fail
      refine (HM.out _ HP.out).mono ?_; rintro e wz ⟨rfl, n1, hwz⟩
      have HPz := hide (show Rdr wz g S i (0, 0) by rw [hwz]; exact HP.out.drewN _)
      have HXz := hide (show Px g w wz by rw [hwz]; exact Px.refl.drewN _)
      clear hwz HP
      obtain ⟨c0, c1, c2, c3⟩ := HPz.out.cells
      obtain ⟨f1, f2, f3⟩ := HPz.out.free
      go_wp2_with fail
      go_quiet (fail)
      go_wp2_with fail
      go_ret
      exact ⟨ret_int (by omega), (HPz.out.drewN _).set_ (i + 1), (HXz.out.drewN _).set_ 1 _⟩
    · rw [h2] at hr
      subst hr
      have w1 : IntKind.u8.wrap ((x : Int) - 65) = ((x - 65 : Nat) : Int) := by rw [IntKind.wrap_u8]; omega
      have w2 : IntKind.i64.wrap (((x - 65 : Nat) : Int) + 10) = ((x - 55 : Nat) : Int) := by rw [IntWalk.i64_in _ (by omega)]; omega
      have d1 : decide ((48 : Int) ≤ (x : Int)) = true := by simp; omega
      have d2 : decide ((x : Int) ≤ 57) = false := by simp; omega
      have d3 : decide ((97 : Int) ≤ (x : Int)) = false := by simp; omega
      have d4 : decide ((65 : Int) ≤ (x : Int)) = true := by simp; omega
      have d5 : decide ((x : Int) ≤ 70) = true := by simp; omega
      clear h2
      go_enter Tryz.func91, Tryz.ntmps91
      go_wp2_with fail
      refine (HM.out _ HP.out).mono ?_; rintro e wz ⟨rfl, n1, hwz⟩
      have HPz := hide (show Rdr wz g S i (0, 0) by rw [hwz]; exact HP.out.drewN _)
      have HXz := hide (show Px g w wz by rw [hwz]; exact Px.refl.drewN _)
      clear hwz HP
      obtain ⟨c0, c1, c2, c3⟩ := HPz.out.cells
      obtain ⟨f1, f2, f3⟩ := HPz.out.free
      go_wp2_with fail
      go_quiet (fail)
      go_wp2_with fail
      go_ret
      exact ⟨ret_int (by omega), (HPz.out.drewN _).set_ (i + 1), (HXz.out.drewN _).set_ 1 _⟩
    · rw [h2] at hr
      subst hr
      have HD := hide (And.intro h1 (And.intro h1' h1''))
      clear h1 h1' h1'' h2
      go_enter Tryz.func91, Tryz.ntmps91
      go_wp2_with fail
      refine (HM.out _ HP.out).mono ?_; rintro e wz ⟨rfl, n1, hwz⟩
      have HPz := hide (show Rdr wz g S i (0, 0) by rw [hwz]; exact HP.out.drewN _)
      have HXz := hide (show Px g w wz by rw [hwz]; exact Px.refl.drewN _)
      clear hwz HP
      obtain ⟨c0, c1, c2, c3⟩ := HPz.out.cells
      obtain ⟨f1, f2, f3⟩ := HPz.out.free
      have w3 : IntKind.i64.wrap ((i : Int) + 1 - 1) = (i : Int) := by rw [IntWalk.i64_in _ (by omega)]; omega
      by_cases a1 : x < 48
      · have d1 : decide ((48 : Int) ≤ (x : Int)) = false := by simp; omega
        have d2 : decide ((97 : Int) ≤ (x : Int)) = false := by simp; omega
        have d3 : decide ((65 : Int) ≤ (x : Int)) = false := by simp; omega
        go_wp2_with fail
        go_quiet (fail)
        go_wp2_with fail
        have HP9 := hide (((HPz.out.drewN nq).set_ (i + 1)).set_ i)
        refine (HF.out _ HP9.out).mono ?_; rintro e w2 ⟨rfl, hr, hx⟩
        have HR := hide hr
        have HX := hide ((((HXz.out.drewN nq).set_ 1 _).set_ 1 _).trans hx)
        clear hr hx c0 c1 c2 c3 f1 f2 f3 HP9
        go_wp2_with fail
        go_ret
        exact ⟨rfl, HR.out, HX.out⟩
      have e1 : 57 < x := by have := HD.out.1; omega
      have d1 : decide ((48 : Int) ≤ (x : Int)) = true := by simp; omega
      have d2 : decide ((x : Int) ≤ 57) = false := by simp; omega
      by_cases a2 : x < 65
      · have d3 : decide ((97 : Int) ≤ (x : Int)) = false := by simp; omega
        have d4 : decide ((65 : Int) ≤ (x : Int)) = false := by simp; omega
        go_wp2_with fail
        go_quiet (fail)
        go_wp2_with fail
        have HP9 := hide (((HPz.out.drewN nq).set_ (i + 1)).set_ i)
        refine (HF.out _ HP9.out).mono ?_; rintro e w2 ⟨rfl, hr, hx⟩
        have HR := hide hr
        have HX := hide ((((HXz.out.drewN nq).set_ 1 _).set_ 1 _).trans hx)
        clear hr hx c0 c1 c2 c3 f1 f2 f3 HP9
        go_wp2_with fail
        go_ret
        exact ⟨rfl, HR.out, HX.out⟩
      have e2 : 70 < x := by have := HD.out.2.2; omega
      have d3 : decide ((65 : Int) ≤ (x : Int)) = true := by simp; omega
      have d4 : decide ((x : Int) ≤ 70) = false := by simp; omega
      by_cases a3 : x < 97
      · have d5 : decide ((97 : Int) ≤ (x : Int)) = false := by simp; omega
        go_wp2_with fail
        go_quiet (fail)
        go_wp2_with fail
        have HP9 := hide (((HPz.out.drewN nq).set_ (i + 1)).set_ i)
        refine (HF.out _ HP9.out).mono ?_; rintro e w2 ⟨rfl, hr, hx⟩
        have HR := hide hr
        have HX := hide ((((HXz.out.drewN nq).set_ 1 _).set_ 1 _).trans hx)
        clear hr hx c0 c1 c2 c3 f1 f2 f3 HP9
        go_wp2_with fail
        go_ret
        exact ⟨rfl, HR.out, HX.out⟩
      have e3 : 102 < x := by have := HD.out.2.1; omega
      have d5 : decide ((97 : Int) ≤ (x : Int)) = true := by simp; omega
      have d6 : decide ((x : Int) ≤ 102) = false := by simp; omega
      go_wp2_with fail
      go_quiet (fail)
      go_wp2_with fail
      have HP9 := hide (((HPz.out.drewN nq).set_ (i + 1)).set_ i)
      refine (HF.out _ HP9.out).mono ?_; rintro e w2 ⟨rfl, hr, hx⟩
      have HR := hide hr
      have HX := hide ((((HXz.out.drewN nq).set_ 1 _).set_ 1 _).trans hx)
      clear hr hx c0 c1 c2 c3 f1 f2 f3 HP9
      go_wp2_with fail
      go_ret
      exact ⟨rfl, HR.out, HX.out⟩
  · have em : moreB S i (0, 0) = false := by unfold moreB; simpa using his
    rw [em] at HM
    rw [nx_past his] at hr
    subst hr
    clear em h
    go_enter Tryz.func91, Tryz.ntmps91
    go_wp2_with fail
    refine (HM.out _ HP.out).mono ?_; rintro e wz ⟨rfl, n1, hwz⟩
    have HPz := hide (show Rdr wz g S i (0, 0) by rw [hwz]; exact HP.out.drewN _)
    have HXz := hide (show Px g w wz by rw [hwz]; exact Px.refl.drewN _)
    clear hwz HP
    obtain ⟨c0, c1, c2, c3⟩ := HPz.out.cells
    obtain ⟨f1, f2, f3⟩ := HPz.out.free
    go_wp2_with fail
    refine (HF.out _ HPz.out).mono ?_; rintro e w2 ⟨rfl, hr, hx⟩
    have HR := hide hr
    have HX := hide (HXz.out.trans hx)
    clear hr hx c0 c1 c2 c3
    go_wp2_with fail
    go_ret
    exact ⟨rfl, HR.out, HX.out⟩
end Go.Proofs.YtmmbbndoimleaaaGreatDoor

/- escape of the reference's reader. -/
namespace Go.Proofs.YtmmbbndoimleaaaGreatDoor
open Go.RowKit

def EscPost (g : Nat) (S : ByteArray) (w : World) (r : Except Flt (Nat × Nat)) (e : Ending) (w' : World) : Prop :=
  match r with
  | .ok (c, j) => e = .returned (.int .u8 c) ∧ Rdr w' g S j (0, 0) ∧ Px g w w'
  | .error f => ∃ (c q : Nat), c < 256 ∧ q ≤ S.size ∧ e = .returned (.int .u8 c) ∧ Rdr w' g S q f ∧ Px g w w'
def escLet : List Nat := [34, 92, 47, 98, 116, 110, 102, 114]
def uniH (j a : Nat) : Option Nat → Except Flt (Nat × Nat)
  | none => .error (19, ((j + 1 : Nat) : Int))
  | some b => .ok (16 * a + b, j + 2)
def uniG (S : ByteArray) (j : Nat) : Option Nat → Except Flt (Nat × Nat)
  | none => .error (19, (j : Int))
  | some a => uniH j a (hexV (nx S (j + 1)))
def uniF (S : ByteArray) : Except Flt Nat → Except Flt (Nat × Nat)
  | .error f => .error f
  | .ok j => uniG S j (hexV (nx S j))
theorem word_err {S : ByteArray} : ∀ {l : List UInt8} {i : Nat} {f : Flt}, wordF S l i = .error f → f.1 ≠ 0
  | [], i, f, h => by cases h
  | c :: l, i, f, h => by
    unfold wordF at h
    split at h
    · exact word_err h
    · injection h with h; rw [← h]; exact (show (19 : Int) ≠ 0 by decide)
theorem hex_lt {c a : Nat} (h : hexV c = some a) : a < 16 := by
  unfold hexV at h
  split at h
  · rename_i hd; have := dig_bounds hd; injection h with h; omega
  split at h
  · injection h with h; omega
  split at h
  · injection h with h; omega
  · cases h

set_option maxRecDepth 20000 in
set_option maxHeartbeats 4000000 in
theorem rescape_run (S : ByteArray) (g k : Nat) (w : World) (h : Rdr w g S (k + 1) (0, 0)) (hi : k + 1 ≤ S.size) (hS : S.size ≤ 1000000000) :
    Calls Tryz.prog 72 #[.pointer (some ⟨g, 0, none⟩)] w (EscPost g S w (escF S k)) := by
  have HY := hide fun c V (h : Rdr V g S (k + 1) (0, 0)) => is_yes S g (k + 1) c (0, 0) V h (by omega)
  have HN := hide fun c V (h : Rdr V g S (k + 1) (0, 0)) => is_no S g (k + 1) c (0, 0) V h (by omega)
  have HF := hide fun V (h : Rdr V g S (k + 1) (0, 0)) => rfail_run S g (k + 1) (0, 0) 19 ((k + 1 : Nat) : Int) V h
  obtain ⟨r, hr⟩ : ∃ r, r = escF S k := ⟨_, rfl⟩
  rw [← hr]
  have HR := Lib.hid hr
  obtain ⟨x, hx⟩ : ∃ x, x = nx S (k + 1) := ⟨_, rfl⟩
  have HX := Lib.hid hx
  have hx2 := nx_lt S (k + 1)
  rw [← hx] at hx2
  have hin : x ≠ 0 → k + 1 < S.size := fun h => nx_in (by rw [← hx]; exact h)
  have H0 := hide (show Rdr w g S (k + 1) (0, 0) ∧ Px g w w ∧ ∀ u ∈ escLet.take 0, x ≠ u from ⟨h, Px.refl, by simp⟩)
  have HIN := hide hin
  clear hr hx h hin
  go_enter Tryz.func72, Tryz.ntmps72
  go_wp2_with fail
  go_loopw [5] (fun mv wr => ∃ m : Nat, mv = .int .i64 m ∧ m ≤ 8 ∧ Hid (Rdr wr g S (k + 1) (0, 0) ∧ Px g w wr ∧ ∀ u ∈ escLet.take m, x ≠ u)) (fun mv _ => 8 - (intOf mv).toNat)
  case atStart => exact ⟨0, rfl, Nat.zero_le _, H0⟩
  case round =>
    clear H0
    obtain ⟨m, rfl, hm, hR⟩ := hrel
    have hmm : m = 0 ∨ m = 1 ∨ m = 2 ∨ m = 3 ∨ m = 4 ∨ m = 5 ∨ m = 6 ∨ m = 7 ∨ m = 8 := by omega
    rcases hmm with rfl | rfl | rfl | rfl | rfl | rfl | rfl | rfl | rfl
    · by_cases hq : x = 34
      · have HQ := Lib.hid (show nx S (k + 1) = 34 by rw [← HX.out]; exact hq)
        have HE := hide (show r = .ok (34, k + 2) by rw [HR.out]; unfold escF; rw [HQ.out]; rfl)
        have HIN1 := hide (HIN.out (by rw [hq]; decide))
        clear hq hm
        go_wp2_with fail
        refine (HY.out 34 _ hR.out.1 (by decide) (by first | trivial | rfl) HQ.out).mono ?_; rintro e w1 ⟨rfl, hr1, hx1⟩
        have HR1 := hide hr1
        have HX1 := hide (hR.out.2.1.trans hx1)
        clear hr1 hx1 hR
        go_wp2_with fail
        go_ret
        rw [HE.out]
        exact ⟨rfl, HR1.out, HX1.out⟩
      · have HNQ := hide (show nx S (k + 1) ≠ 34 by rw [← HX.out]; exact hq)
        have HAL := hide (show ∀ u ∈ escLet.take 1, x ≠ u from fun u hu => by
          have hu2 : u ∈ escLet.take 0 ∨ u = 34 := by simpa [escLet, or_assoc] using hu
          rcases hu2 with h | h
          · exact hR.out.2.2 u h
          · rw [h]; exact hq)
        clear hq
        go_wp2_with fail
        refine (HN.out 34 _ hR.out.1 (by decide) (.inr HNQ.out)).mono ?_; rintro e w1 ⟨rfl, hr1, hx1⟩
        have HR1 := hide hr1
        have HX1 := hide (hR.out.2.1.trans hx1)
        clear hr1 hx1 hR
        go_wp2_with fail
        go_roundw
        case rel => exact ⟨1, rfl, by omega, hide ⟨HR1.out, HX1.out, HAL.out⟩⟩
        case measure => simp [intOf]
    · by_cases hq : x = 92
      · have HQ := Lib.hid (show nx S (k + 1) = 92 by rw [← HX.out]; exact hq)
        have HE := hide (show r = .ok (92, k + 2) by rw [HR.out]; unfold escF; rw [HQ.out]; rfl)
        have HIN1 := hide (HIN.out (by rw [hq]; decide))
        clear hq hm
        go_wp2_with fail
        refine (HY.out 92 _ hR.out.1 (by decide) (by first | trivial | rfl) HQ.out).mono ?_; rintro e w1 ⟨rfl, hr1, hx1⟩
        have HR1 := hide hr1
        have HX1 := hide (hR.out.2.1.trans hx1)
        clear hr1 hx1 hR
        go_wp2_with fail
        go_ret
        rw [HE.out]
        exact ⟨rfl, HR1.out, HX1.out⟩
      · have HNQ := hide (show nx S (k + 1) ≠ 92 by rw [← HX.out]; exact hq)
        have HAL := hide (show ∀ u ∈ escLet.take 2, x ≠ u from fun u hu => by
          have hu2 : u ∈ escLet.take 1 ∨ u = 92 := by simpa [escLet, or_assoc] using hu
          rcases hu2 with h | h
          · exact hR.out.2.2 u h
          · rw [h]; exact hq)
        clear hq
        go_wp2_with fail
        refine (HN.out 92 _ hR.out.1 (by decide) (.inr HNQ.out)).mono ?_; rintro e w1 ⟨rfl, hr1, hx1⟩
        have HR1 := hide hr1
        have HX1 := hide (hR.out.2.1.trans hx1)
        clear hr1 hx1 hR
        go_wp2_with fail
        go_roundw
        case rel => exact ⟨2, rfl, by omega, hide ⟨HR1.out, HX1.out, HAL.out⟩⟩
        case measure => simp [intOf]
    · by_cases hq : x = 47
      · have HQ := Lib.hid (show nx S (k + 1) = 47 by rw [← HX.out]; exact hq)
        have HE := hide (show r = .ok (47, k + 2) by rw [HR.out]; unfold escF; rw [HQ.out]; rfl)
        have HIN1 := hide (HIN.out (by rw [hq]; decide))
        clear hq hm
        go_wp2_with fail
        refine (HY.out 47 _ hR.out.1 (by decide) (by first | trivial | rfl) HQ.out).mono ?_; rintro e w1 ⟨rfl, hr1, hx1⟩
        have HR1 := hide hr1
        have HX1 := hide (hR.out.2.1.trans hx1)
        clear hr1 hx1 hR
        go_wp2_with fail
        go_ret
        rw [HE.out]
        exact ⟨rfl, HR1.out, HX1.out⟩
      · have HNQ := hide (show nx S (k + 1) ≠ 47 by rw [← HX.out]; exact hq)
        have HAL := hide (show ∀ u ∈ escLet.take 3, x ≠ u from fun u hu => by
          have hu2 : u ∈ escLet.take 2 ∨ u = 47 := by simpa [escLet, or_assoc] using hu
          rcases hu2 with h | h
          · exact hR.out.2.2 u h
          · rw [h]; exact hq)
        clear hq
        go_wp2_with fail
        refine (HN.out 47 _ hR.out.1 (by decide) (.inr HNQ.out)).mono ?_; rintro e w1 ⟨rfl, hr1, hx1⟩
        have HR1 := hide hr1
        have HX1 := hide (hR.out.2.1.trans hx1)
        clear hr1 hx1 hR
        go_wp2_with fail
        go_roundw
        case rel => exact ⟨3, rfl, by omega, hide ⟨HR1.out, HX1.out, HAL.out⟩⟩
        case measure => simp [intOf]
    · by_cases hq : x = 98
      · have HQ := Lib.hid (show nx S (k + 1) = 98 by rw [← HX.out]; exact hq)
        have HE := hide (show r = .ok (8, k + 2) by rw [HR.out]; unfold escF; rw [HQ.out]; rfl)
        have HIN1 := hide (HIN.out (by rw [hq]; decide))
        clear hq hm
        go_wp2_with fail
        refine (HY.out 98 _ hR.out.1 (by decide) (by first | trivial | rfl) HQ.out).mono ?_; rintro e w1 ⟨rfl, hr1, hx1⟩
        have HR1 := hide hr1
        have HX1 := hide (hR.out.2.1.trans hx1)
        clear hr1 hx1 hR
        go_wp2_with fail
        go_ret
        rw [HE.out]
        exact ⟨rfl, HR1.out, HX1.out⟩
      · have HNQ := hide (show nx S (k + 1) ≠ 98 by rw [← HX.out]; exact hq)
        have HAL := hide (show ∀ u ∈ escLet.take 4, x ≠ u from fun u hu => by
          have hu2 : u ∈ escLet.take 3 ∨ u = 98 := by simpa [escLet, or_assoc] using hu
          rcases hu2 with h | h
          · exact hR.out.2.2 u h
          · rw [h]; exact hq)
        clear hq
        go_wp2_with fail
        refine (HN.out 98 _ hR.out.1 (by decide) (.inr HNQ.out)).mono ?_; rintro e w1 ⟨rfl, hr1, hx1⟩
        have HR1 := hide hr1
        have HX1 := hide (hR.out.2.1.trans hx1)
        clear hr1 hx1 hR
        go_wp2_with fail
        go_roundw
        case rel => exact ⟨4, rfl, by omega, hide ⟨HR1.out, HX1.out, HAL.out⟩⟩
        case measure => simp [intOf]
    · by_cases hq : x = 116
      · have HQ := Lib.hid (show nx S (k + 1) = 116 by rw [← HX.out]; exact hq)
        have HE := hide (show r = .ok (9, k + 2) by rw [HR.out]; unfold escF; rw [HQ.out]; rfl)
        have HIN1 := hide (HIN.out (by rw [hq]; decide))
        clear hq hm
        go_wp2_with fail
        refine (HY.out 116 _ hR.out.1 (by decide) (by first | trivial | rfl) HQ.out).mono ?_; rintro e w1 ⟨rfl, hr1, hx1⟩
        have HR1 := hide hr1
        have HX1 := hide (hR.out.2.1.trans hx1)
        clear hr1 hx1 hR
        go_wp2_with fail
        go_ret
        rw [HE.out]
        exact ⟨rfl, HR1.out, HX1.out⟩
      · have HNQ := hide (show nx S (k + 1) ≠ 116 by rw [← HX.out]; exact hq)
        have HAL := hide (show ∀ u ∈ escLet.take 5, x ≠ u from fun u hu => by
          have hu2 : u ∈ escLet.take 4 ∨ u = 116 := by simpa [escLet, or_assoc] using hu
          rcases hu2 with h | h
          · exact hR.out.2.2 u h
          · rw [h]; exact hq)
        clear hq
        go_wp2_with fail
        refine (HN.out 116 _ hR.out.1 (by decide) (.inr HNQ.out)).mono ?_; rintro e w1 ⟨rfl, hr1, hx1⟩
        have HR1 := hide hr1
        have HX1 := hide (hR.out.2.1.trans hx1)
        clear hr1 hx1 hR
        go_wp2_with fail
        go_roundw
        case rel => exact ⟨5, rfl, by omega, hide ⟨HR1.out, HX1.out, HAL.out⟩⟩
        case measure => simp [intOf]
    · by_cases hq : x = 110
      · have HQ := Lib.hid (show nx S (k + 1) = 110 by rw [← HX.out]; exact hq)
        have HE := hide (show r = .ok (10, k + 2) by rw [HR.out]; unfold escF; rw [HQ.out]; rfl)
        have HIN1 := hide (HIN.out (by rw [hq]; decide))
        clear hq hm
        go_wp2_with fail
        refine (HY.out 110 _ hR.out.1 (by decide) (by first | trivial | rfl) HQ.out).mono ?_; rintro e w1 ⟨rfl, hr1, hx1⟩
        have HR1 := hide hr1
        have HX1 := hide (hR.out.2.1.trans hx1)
        clear hr1 hx1 hR
        go_wp2_with fail
        go_ret
        rw [HE.out]
        exact ⟨rfl, HR1.out, HX1.out⟩
      · have HNQ := hide (show nx S (k + 1) ≠ 110 by rw [← HX.out]; exact hq)
        have HAL := hide (show ∀ u ∈ escLet.take 6, x ≠ u from fun u hu => by
          have hu2 : u ∈ escLet.take 5 ∨ u = 110 := by simpa [escLet, or_assoc] using hu
          rcases hu2 with h | h
          · exact hR.out.2.2 u h
          · rw [h]; exact hq)
        clear hq
        go_wp2_with fail
        refine (HN.out 110 _ hR.out.1 (by decide) (.inr HNQ.out)).mono ?_; rintro e w1 ⟨rfl, hr1, hx1⟩
        have HR1 := hide hr1
        have HX1 := hide (hR.out.2.1.trans hx1)
        clear hr1 hx1 hR
        go_wp2_with fail
        go_roundw
        case rel => exact ⟨6, rfl, by omega, hide ⟨HR1.out, HX1.out, HAL.out⟩⟩
        case measure => simp [intOf]
    · by_cases hq : x = 102
      · have HQ := Lib.hid (show nx S (k + 1) = 102 by rw [← HX.out]; exact hq)
        have HE := hide (show r = .ok (12, k + 2) by rw [HR.out]; unfold escF; rw [HQ.out]; rfl)
        have HIN1 := hide (HIN.out (by rw [hq]; decide))
        clear hq hm
        go_wp2_with fail
        refine (HY.out 102 _ hR.out.1 (by decide) (by first | trivial | rfl) HQ.out).mono ?_; rintro e w1 ⟨rfl, hr1, hx1⟩
        have HR1 := hide hr1
        have HX1 := hide (hR.out.2.1.trans hx1)
        clear hr1 hx1 hR
        go_wp2_with fail
        go_ret
        rw [HE.out]
        exact ⟨rfl, HR1.out, HX1.out⟩
      · have HNQ := hide (show nx S (k + 1) ≠ 102 by rw [← HX.out]; exact hq)
        have HAL := hide (show ∀ u ∈ escLet.take 7, x ≠ u from fun u hu => by
          have hu2 : u ∈ escLet.take 6 ∨ u = 102 := by simpa [escLet, or_assoc] using hu
          rcases hu2 with h | h
          · exact hR.out.2.2 u h
          · rw [h]; exact hq)
        clear hq
        go_wp2_with fail
        refine (HN.out 102 _ hR.out.1 (by decide) (.inr HNQ.out)).mono ?_; rintro e w1 ⟨rfl, hr1, hx1⟩
        have HR1 := hide hr1
        have HX1 := hide (hR.out.2.1.trans hx1)
        clear hr1 hx1 hR
        go_wp2_with fail
        go_roundw
        case rel => exact ⟨7, rfl, by omega, hide ⟨HR1.out, HX1.out, HAL.out⟩⟩
        case measure => simp [intOf]
    · by_cases hq : x = 114
      · have HQ := Lib.hid (show nx S (k + 1) = 114 by rw [← HX.out]; exact hq)
        have HE := hide (show r = .ok (13, k + 2) by rw [HR.out]; unfold escF; rw [HQ.out]; rfl)
        have HIN1 := hide (HIN.out (by rw [hq]; decide))
        clear hq hm
        go_wp2_with fail
        refine (HY.out 114 _ hR.out.1 (by decide) (by first | trivial | rfl) HQ.out).mono ?_; rintro e w1 ⟨rfl, hr1, hx1⟩
        have HR1 := hide hr1
        have HX1 := hide (hR.out.2.1.trans hx1)
        clear hr1 hx1 hR
        go_wp2_with fail
        go_ret
        rw [HE.out]
        exact ⟨rfl, HR1.out, HX1.out⟩
      · have HNQ := hide (show nx S (k + 1) ≠ 114 by rw [← HX.out]; exact hq)
        have HAL := hide (show ∀ u ∈ escLet.take 8, x ≠ u from fun u hu => by
          have hu2 : u ∈ escLet.take 7 ∨ u = 114 := by simpa [escLet, or_assoc] using hu
          rcases hu2 with h | h
          · exact hR.out.2.2 u h
          · rw [h]; exact hq)
        clear hq
        go_wp2_with fail
        refine (HN.out 114 _ hR.out.1 (by decide) (.inr HNQ.out)).mono ?_; rintro e w1 ⟨rfl, hr1, hx1⟩
        have HR1 := hide hr1
        have HX1 := hide (hR.out.2.1.trans hx1)
        clear hr1 hx1 hR
        go_wp2_with fail
        go_roundw
        case rel => exact ⟨8, rfl, by omega, hide ⟨HR1.out, HX1.out, HAL.out⟩⟩
        case measure => simp [intOf]
    · have HAL := hide hR.out.2.2
      have hall : x ≠ 34 ∧ x ≠ 92 ∧ x ≠ 47 ∧ x ≠ 98 ∧ x ≠ 116 ∧ x ≠ 110 ∧ x ≠ 102 ∧ x ≠ 114 := ⟨HAL.out 34 (by decide), HAL.out 92 (by decide), HAL.out 47 (by decide), HAL.out 98 (by decide), HAL.out 116 (by decide), HAL.out 110 (by decide), HAL.out 102 (by decide), HAL.out 114 (by decide)⟩
      have hesc : r = if x = 117 then uniF S (wordF S [48, 48] (k + 2)) else .error (19, ((k + 1 : Nat) : Int)) := by
        rw [HR.out]
        unfold escF
        rw [← HX.out]
        simp only
        rw [if_neg (by omega), if_neg (by omega), if_neg (by omega), if_neg (by omega), if_neg (by omega), if_neg (by omega)]
        congr 1
      have HEE := Lib.hid hesc
      clear hall hesc HAL hm
      by_cases hq : x = 117
      · have HQ := Lib.hid (show nx S (k + 1) = 117 by rw [← HX.out]; exact hq)
        have HIN1 := hide (HIN.out (by rw [hq]; decide))
        obtain ⟨q, hq2⟩ : ∃ q, q = wordF S [48, 48] (k + 2) := ⟨_, rfl⟩
        have HE := hide (show r = uniF S q by rw [HEE.out, if_pos hq, hq2])
        have HW2 := Lib.hid hq2
        have HWD := hide fun V (h : Rdr V g S (k + 2) (0, 0)) => rword_run S ⟨#[48, 48]⟩ g (k + 2) V h (by have := HIN1.out; omega) hS (by decide) (by decide)
        rw [show (⟨#[48, 48]⟩ : ByteArray).data.toList = [48, 48] from rfl, ← hq2] at HWD
        have HB := hide fun i f V (h : Rdr V g S i f) (hf : f.1 ≠ 0) => rhex_bad S g i f V h hf
        have HH := hide fun i V (h : Rdr V g S i (0, 0)) => rhex_run S g i V h hS
        clear hq hq2 HEE
        go_wp2_with fail
        refine (HY.out 117 _ hR.out.1 (by decide) (by first | trivial | rfl) HQ.out).mono ?_; rintro e w1 ⟨rfl, hr1, hx1⟩
        have HR1 := hide hr1
        have HX1 := hide (hR.out.2.1.trans hx1)
        clear hr1 hx1 hR
        go_wp2_with fail
        refine (HWD.out _ HR1.out).mono ?_
        cases q with
        | error f =>
          rintro e w2 ⟨p, hp, rfl, hr2, hx2⟩
          have hfne : f.1 ≠ 0 := word_err HW2.out.symm
          have HR2 := hide hr2
          have HX2 := hide (HX1.out.trans hx2)
          have HFN := hide hfne
          clear hr2 hx2 HR1 HX1 hfne
          go_wp2_with fail
          refine (HB.out p f _ HR2.out HFN.out).mono ?_; rintro e w3 ⟨rfl, hr3, hx3⟩
          have HR3 := hide hr3
          have HX3 := hide (HX2.out.trans hx3)
          clear hr3 hx3 HR2 HX2
          go_wp2_with fail
          refine (HB.out p f _ HR3.out HFN.out).mono ?_; rintro e w4 ⟨rfl, hr4, hx4⟩
          have HR4 := hide hr4
          have HX4 := hide (HX3.out.trans hx4)
          clear hr4 hx4 HR3 HX3
          go_wp2_with fail
          go_ret
          rw [show r = .error f from HE.out]
          exact ⟨0, p, by omega, hp, ret_int (by first | rfl | omega | (simp; done)), HR4.out, HX4.out⟩
        | ok j =>
          rintro e w2 ⟨rfl, hr2, hx2⟩
          have hj : j ≤ S.size := word_in HW2.out.symm (by decide) (by simp)
          have HR2 := hide hr2
          have HX2 := hide (HX1.out.trans hx2)
          clear hr2 hx2 HR1 HX1
          have HH1 := hide (HH.out j _ HR2.out)
          obtain ⟨v, hv⟩ : ∃ v, v = hexV (nx S j) := ⟨_, rfl⟩
          have HE2 := hide (show r = uniG S j v by rw [hv]; exact HE.out)
          rw [← hv] at HH1
          have HV := Lib.hid hv
          clear hv HE
          go_wp2_with fail
          refine HH1.out.mono ?_
          cases v with
          | none =>
            rintro e w3 ⟨rfl, hr3, hx3⟩
            have HR3 := hide hr3
            have HX3 := hide (HX2.out.trans hx3)
            clear hr3 hx3 HR2 HX2 HH1
            go_wp2_with fail
            refine (HB.out j _ _ HR3.out (show (19 : Int) ≠ 0 by decide)).mono ?_; rintro e w4 ⟨rfl, hr4, hx4⟩
            have HR4 := hide hr4
            have HX4 := hide (HX3.out.trans hx4)
            clear hr4 hx4 HR3 HX3
            go_wp2_with fail
            go_ret
            rw [show r = .error (19, (j : Int)) from HE2.out]
            exact ⟨0, j, by omega, hj, ret_int (by first | rfl | omega | (simp; done)), HR4.out, HX4.out⟩
          | some a =>
            rintro e w3 ⟨rfl, hr3, hx3⟩
            have ha : a < 16 := hex_lt HV.out.symm
            have hj1 : j < S.size := nx_in fun e => by have := HV.out; rw [e] at this; cases this
            have HR3 := hide hr3
            have HX3 := hide (HX2.out.trans hx3)
            clear hr3 hx3 HR2 HX2 HH1
            have HH2 := hide (HH.out (j + 1) _ HR3.out)
            obtain ⟨u, hu⟩ : ∃ v, v = hexV (nx S (j + 1)) := ⟨_, rfl⟩
            have HE3 := hide (show r = uniH j a u by rw [hu]; exact HE2.out)
            rw [← hu] at HH2
            have HU := Lib.hid hu
            have wr1 : IntKind.i64.wrap (16 * (a : Int)) = 16 * (a : Int) := IntWalk.i64_in _ (by omega)
            clear hu HE2
            go_wp2_with fail
            refine HH2.out.mono ?_
            cases u with
            | none =>
              rintro e w4 ⟨rfl, hr4, hx4⟩
              have HR4 := hide hr4
              have HX4 := hide (HX3.out.trans hx4)
              clear hr4 hx4 HR3 HX3 HH2
              go_wp2_with fail
              go_ret
              rw [show r = .error (19, ((j + 1 : Nat) : Int)) from HE3.out]
              exact ⟨16 * a, j + 1, by omega, hj1, ret_int (by first | rfl | omega | (rw [IntKind.wrap_u8]; omega) | (simp; omega)), HR4.out, HX4.out⟩
            | some b =>
              rintro e w4 ⟨rfl, hr4, hx4⟩
              have hb : b < 16 := hex_lt HU.out.symm
              have HR4 := hide hr4
              have HX4 := hide (HX3.out.trans hx4)
              have wr2 : IntKind.i64.wrap (16 * (a : Int) + (b : Int)) = 16 * (a : Int) + (b : Int) := IntWalk.i64_in _ (by omega)
              have wr3 : IntKind.u8.wrap (16 * (a : Int) + (b : Int)) = ((16 * a + b : Nat) : Int) := by rw [IntKind.wrap_u8]; omega
              clear hr4 hx4 HR3 HX3 HH2
              go_wp2_with fail
              go_ret
              rw [show r = .ok (16 * a + b, j + 2) from HE3.out]
              exact ⟨ret_int (by omega), HR4.out, HX4.out⟩
      · have HNQ := hide (show nx S (k + 1) ≠ 117 by rw [← HX.out]; exact hq)
        have HE := hide (show r = .error (19, ((k + 1 : Nat) : Int)) by rw [HEE.out, if_neg hq])
        clear hq HEE
        go_wp2_with fail
        refine (HN.out 117 _ hR.out.1 (by decide) (.inr HNQ.out)).mono ?_; rintro e w1 ⟨rfl, hr1, hx1⟩
        obtain ⟨c0, c1, c2, c3⟩ := hr1.cells
        have HR1 := hide hr1
        have HX1 := hide (hR.out.2.1.trans hx1)
        clear hr1 hx1 hR
        go_wp2_with fail
        refine (HF.out _ HR1.out).mono ?_; rintro e w2 ⟨rfl, hr2, hx2⟩
        have HR2 := hide hr2
        have HX2 := hide (HX1.out.trans hx2)
        clear hr2 hx2 HR1 HX1 c0 c1 c2 c3
        go_wp2_with fail
        go_ret
        rw [HE.out]
        exact ⟨0, k + 1, by omega, hi, rfl, HR2.out, HX2.out⟩
end Go.Proofs.YtmmbbndoimleaaaGreatDoor

/- str of the reference's reader. -/
namespace Go.Proofs.YtmmbbndoimleaaaGreatDoor
open Go.RowKit

def StrPost (g : Nat) (S : ByteArray) (w : World) (r : Except Flt (ByteArray × Nat)) (e : Ending) (w' : World) : Prop :=
  match r with
  | .ok (T, j) => e = .returned (.string T) ∧ Rdr w' g S j (0, 0) ∧ Px g w w'
  | .error f => ∃ (T : ByteArray) (q : Nat), q ≤ S.size ∧ e = .returned (.string T) ∧ Rdr w' g S q f ∧ Px g w w'
/-- The fault's number. -/
def fltOf (w : World) (g : Nat) : Int := intOf ((w.cell? ⟨g, 2, none⟩).getD undef)
theorem Rdr.flt_ {w : World} {g : Nat} {S : ByteArray} {i : Nat} {f : Flt} (h : Rdr w g S i f) : fltOf w g = f.1 := by
  unfold fltOf; rw [h.cells.2.2.1]; rfl
def strM (S : ByteArray) (g : Nat) (w : World) : Nat := if fltOf w g = 0 then S.size + 1 - atOf w g else 0
theorem strM_ok {w : World} {g : Nat} {S : ByteArray} {i : Nat} (h : Rdr w g S i (0, 0)) : strM S g w = S.size + 1 - i := by
  unfold strM; rw [h.flt_, h.at_, if_pos rfl]
theorem strM_bad {w : World} {g : Nat} {S : ByteArray} {i : Nat} {f : Flt} (h : Rdr w g S i f) (hf : f.1 ≠ 0) : strM S g w = 0 := by
  unfold strM; rw [h.flt_, if_neg hf]
theorem esc_err {S : ByteArray} {i : Nat} {f : Flt} (h : escF S i = .error f) : f.1 ≠ 0 := by
  unfold escF at h
  simp only at h
  split at h
  · cases h
  split at h
  · cases h
  split at h
  · cases h
  split at h
  · cases h
  split at h
  · cases h
  split at h
  · cases h
  split at h
  · cases hw : wordF S [48, 48] (i + 2) with
    | error g => rw [hw] at h; injection h with h; rw [← h]; exact word_err hw
    | ok j =>
      rw [hw] at h
      simp only at h
      cases ha : hexV (nx S j) with
      | none => rw [ha] at h; injection h with h; rw [← h]; exact (show (19 : Int) ≠ 0 by decide)
      | some a =>
        rw [ha] at h
        simp only at h
        cases hb : hexV (nx S (j + 1)) with
        | none => rw [hb] at h; injection h with h; rw [← h]; exact (show (19 : Int) ≠ 0 by decide)
        | some b => rw [hb] at h; cases h
  · injection h with h; rw [← h]; exact (show (19 : Int) ≠ 0 by decide)

def escG (S T : ByteArray) : Except Flt (Nat × Nat) → Except Flt (ByteArray × Nat)
  | .error f => .error f
  | .ok (c, j) => strR S j (T.push (UInt8.ofNat c))
theorem conv_u1 (c : Nat) (hc : c < 256) (W : World) : (convert 73 9 (.slice (some ⟨W.heap.size, 0, none⟩) 1 1)).run Tryz.prog (W.alloc (.cells #[.int .u8 (c : Int)] 5)) = .ok (.string ⟨#[UInt8.ofNat c]⟩) (W.alloc (.cells #[.int .u8 (c : Int)] 5)) := by
  have e : ((UInt8.ofNat c).toNat : Int) = (c : Int) := by simp; omega
  have h : (W.alloc (.cells #[.int .u8 (c : Int)] 5)).ownsRow W.heap.size 5 1 (.slice (some ⟨W.heap.size, 0, none⟩) 1 1) 1 (byL [UInt8.ofNat c]) :=
    ⟨rfl, .inr ⟨W.heap.size, 1, #[Value.int .u8 (c : Int)], rfl, Nat.le_refl _, heap_alloc_new W _, by omega, by simp [maxLen], rfl, by unfold byL; simp; omega⟩⟩
  exact conv_row (b := W.heap.size) (l := [UInt8.ofNat c]) h
theorem ba_one (T : ByteArray) (c : Nat) : T ++ ⟨#[UInt8.ofNat c]⟩ = T.push (UInt8.ofNat c) := by
  apply ByteArray.ext
  rw [ByteArray.data_append]
  apply Array.toList_inj.1
  simp [ByteArray.push]

set_option maxRecDepth 20000 in
set_option maxHeartbeats 4000000 in
theorem rstr_run (S : ByteArray) (g i : Nat) (w : World) (h : Rdr w g S i (0, 0)) (hi : i ≤ S.size) (hS : S.size ≤ 1000000000) :
    Calls Tryz.prog 49 #[.pointer (some ⟨g, 0, none⟩)] w (StrPost g S w (strR S i ByteArray.empty)) := by
  have HM := hide fun k f V (h : Rdr V g S k f) => more_run S g k f V h
  have HY := hide fun c k f V (h : Rdr V g S k f) (hk : k ≤ S.size) => is_yes S g k c f V h (by omega)
  have HN := hide fun c k f V (h : Rdr V g S k f) (hk : k ≤ S.size) => is_no S g k c f V h (by omega)
  have HF := hide fun (k : Nat) f V (h : Rdr V g S k f) => rfail_run S g k f 19 (k : Nat) V h
  have HES := hide fun k V (h : Rdr V g S (k + 1) (0, 0)) (hk : k + 1 ≤ S.size) => rescape_run S g k V h hk hS
  obtain ⟨r, hr⟩ : ∃ r, r = strR S i ByteArray.empty := ⟨_, rfl⟩
  rw [← hr]
  have H0 := hide (show Px g w w ∧ ((Rdr w g S i (0, 0) ∧ (⟨#[]⟩ : ByteArray).size ≤ i ∧ r = strR S i ⟨#[]⟩) ∨ ∃ f, r = .error f ∧ f.1 ≠ 0 ∧ Rdr w g S i f) from ⟨Px.refl, .inl ⟨h, Nat.zero_le _, hr⟩⟩)
  have HG := hide h.lt
  clear hr h
  go_enter Tryz.func49, Tryz.ntmps49
  go_wp2_with fail
  go_loopw [3] (fun sv wr => ∃ (k : Nat) (T : ByteArray), sv = .string T ∧ k ≤ S.size ∧ Hid (Px g w wr ∧ ((Rdr wr g S k (0, 0) ∧ T.size ≤ k ∧ r = strR S k T) ∨ ∃ f, r = .error f ∧ f.1 ≠ 0 ∧ Rdr wr g S k f))) (fun _ wr => strM S g wr)
  case atStart => exact ⟨i, ⟨#[]⟩, rfl, hi, H0⟩
  case round =>
    clear H0
    obtain ⟨k, T, rfl, hk, hR⟩ := hrel
    rcases hR.out.2 with ⟨h1, h2, h3⟩ | ⟨f, h1, h2, h3⟩
    · have HP := hide h1
      have HX := hide hR.out.1
      have hts := h2
      have HSR := hide (h3.trans (strR_eq hk T))
      have HM1 := hide fun V (h : Rdr V g S k (0, 0)) => HM.out k (0, 0) V h
      have HPd := hide fun n => h1.drewN n
      have HAT := hide (strM_ok h1)
      clear h1 h2 h3 hR
      by_cases hlt : k < S.size
      · have em : moreB S k (0, 0) = true := by unfold moreB; simpa using hlt
        rw [em] at HM1
        obtain ⟨x, hx⟩ : ∃ x, x = (S[k]).toNat := ⟨_, rfl⟩
        have hx2 : x < 256 := by rw [hx]; exact (S[k]).toNat_lt
        have hS2 : (S[k]).toNat = x := hx.symm
        have HNX := hide (show nx S k = x by rw [hx]; exact nx_at hlt)
        obtain ⟨c0, c1, c2, c3⟩ := HP.out.cells
        clear hx em
        by_cases l1 : x < 32
        · have d1 : decide ((32 : Int) ≤ (x : Int)) = false := by simp; omega
          have HE := hide (show r = .error (19, (k : Int)) by rw [HSR.out, HNX.out, if_neg (by omega), if_neg (by omega), if_pos (by omega)])
          clear c0 c1 c2 c3 HSR
          obtain ⟨c0, c1, c2, c3⟩ := HP.out.cells
          go_wp2_with fail
          go_quiet ((go_at_call 53; exact Calls.quiet_of (HM1.out _ (HPd.out _))))
          obtain ⟨wz, hwz⟩ : ∃ W, W = wr.drewN nq := ⟨_, rfl⟩
          have HPz := hide (show Rdr wz g S k (0, 0) by rw [hwz]; exact HP.out.drewN _)
          have HXz := hide (show Px g w wz by rw [hwz]; exact HX.out.drewN _)
          rw [← hwz]
          clear hwz HP HX
          clear c0 c1 c2 c3
          obtain ⟨c0, c1, c2, c3⟩ := HPz.out.cells
          go_wp2_with fail
          refine (HF.out k (0, 0) _ HPz.out).mono ?_; rintro e w2 ⟨rfl, hr2, hx2⟩
          have HR2 := hide hr2
          have HX2 := hide (HXz.out.trans hx2)
          clear hr2 hx2 c0 c1 c2 c3
          go_wp2_with fail
          go_ret
          rw [HE.out]
          exact ⟨_, k, hk, rfl, HR2.out, HX2.out⟩
        · have d1 : decide ((32 : Int) ≤ (x : Int)) = true := by simp; omega
          by_cases l2 : 126 < x
          · have d2 : decide ((x : Int) ≤ 126) = false := by simp; omega
            have HE := hide (show r = .error (19, (k : Int)) by rw [HSR.out, HNX.out, if_neg (by omega), if_neg (by omega), if_pos (by omega)])
            clear HSR
            go_wp2_with fail
            go_quiet ((go_at_call 53; exact Calls.quiet_of (HM1.out _ (HPd.out _))))
            obtain ⟨wz, hwz⟩ : ∃ W, W = wr.drewN nq := ⟨_, rfl⟩
            have HPz := hide (show Rdr wz g S k (0, 0) by rw [hwz]; exact HP.out.drewN _)
            have HXz := hide (show Px g w wz by rw [hwz]; exact HX.out.drewN _)
            rw [← hwz]
            clear hwz HP HX
            clear c0 c1 c2 c3
            obtain ⟨c0, c1, c2, c3⟩ := HPz.out.cells
            go_wp2_with fail
            refine (HF.out k (0, 0) _ HPz.out).mono ?_; rintro e w2 ⟨rfl, hr2, hx2⟩
            have HR2 := hide hr2
            have HX2 := hide (HXz.out.trans hx2)
            clear hr2 hx2 c0 c1 c2 c3
            go_wp2_with fail
            go_ret
            rw [HE.out]
            exact ⟨_, k, hk, rfl, HR2.out, HX2.out⟩
          · have d2 : decide ((x : Int) ≤ 126) = true := by simp; omega
            go_wp2_with fail
            go_quiet ((go_at_call 53; exact Calls.quiet_of (HM1.out _ (HPd.out _))))
            obtain ⟨wz, hwz⟩ : ∃ W, W = wr.drewN nq := ⟨_, rfl⟩
            have HPz := hide (show Rdr wz g S k (0, 0) by rw [hwz]; exact HP.out.drewN _)
            have HXz := hide (show Px g w wz by rw [hwz]; exact HX.out.drewN _)
            rw [← hwz]
            clear hwz HP HX
            clear c0 c1 c2 c3
            by_cases q34 : x = 34
            · have HQ := Lib.hid (show nx S k = 34 by rw [HNX.out]; exact q34)
              have HE := hide (show r = .ok (T, k + 1) by rw [HSR.out, HQ.out, if_pos rfl])
              clear q34 HSR
              go_wp2_with fail
              refine (HY.out 34 k _ _ HPz.out hk (by decide) (by first | trivial | rfl) HQ.out).mono ?_; rintro e w1 ⟨rfl, hr1, hx1⟩
              have HR1 := hide hr1
              have HX1 := hide (HXz.out.trans hx1)
              clear hr1 hx1 HPz HXz
              go_wp2_with fail
              go_ret
              rw [HE.out]
              exact ⟨rfl, HR1.out, HX1.out⟩
            have HNQ := hide (show nx S k ≠ 34 by rw [HNX.out]; exact q34)
            by_cases q92 : x = 92
            · have HQ := Lib.hid (show nx S k = 92 by rw [HNX.out]; exact q92)
              obtain ⟨q, hq⟩ : ∃ q, q = escF S k := ⟨_, rfl⟩
              have HE := hide (show r = escG S T q by rw [HSR.out, HQ.out, if_neg (by decide), if_pos rfl, hq]; rfl)
              have HQE := Lib.hid hq
              have HES1 := hide fun V (h : Rdr V g S (k + 1) (0, 0)) => HES.out k V h hlt
              rw [← hq] at HES1
              clear q34 q92 HSR hq
              go_wp2_with fail
              refine (HN.out 34 k _ _ HPz.out hk (by decide) (.inr HNQ.out)).mono ?_; rintro e w1 ⟨rfl, hr1, hx1⟩
              have HR1 := hide hr1
              have HX1 := hide (HXz.out.trans hx1)
              clear hr1 hx1 HPz HXz
              go_wp2_with fail
              refine (HY.out 92 k _ _ HR1.out hk (by decide) (by first | trivial | rfl) HQ.out).mono ?_; rintro e w2 ⟨rfl, hr2, hx2⟩
              have HR2 := hide hr2
              have HX2 := hide (HX1.out.trans hx2)
              clear hr2 hx2 HR1 HX1
              go_wp2_with fail
              refine (HES1.out _ HR2.out).mono ?_
              cases q with
              | error f =>
                rintro e w3 ⟨c, p, hc, hp, rfl, hr3, hx3⟩
                have hfne := esc_err HQE.out.symm
                have HR3 := hide hr3
                have HX3 := hide (HX2.out.trans hx3)
                have HFN := hide hfne
                have hov : ¬ 9223372036854775807 < T.size + 1 := by omega
                have hcv := conv_u1 c hc w3
                clear hr3 hx3 HR2 HX2 HES1 hfne
                go_wp2_with fail
                go_roundw
                case rel => exact ⟨p, _, rfl, hp, hide ⟨HX3.out.alloc _, .inr ⟨f, HE.out, HFN.out, HR3.out.below ((Below.refl _ _).alloc (Nat.le_refl _) _)⟩⟩⟩
                case measure =>
                  rw [HAT.out, strM_bad (HR3.out.below ((Below.refl _ _).alloc (Nat.le_refl _) (.cells #[.int .u8 (c : Int)] 5))) HFN.out]; omega
              | ok p =>
                obtain ⟨c, j⟩ := p
                rintro e w3 ⟨rfl, hr3, hx3⟩
                obtain ⟨k1, k2, k3⟩ := esc_ok HQE.out.symm
                have HR3 := hide hr3
                have HX3 := hide (HX2.out.trans hx3)
                have hov : ¬ 9223372036854775807 < T.size + 1 := by omega
                have hcv := conv_u1 c k3 w3
                have HAP := hide (ba_one T c)
                clear hr3 hx3 HR2 HX2 HES1
                go_wp2_with fail
                go_roundw
                case rel => exact ⟨j, T ++ ⟨#[UInt8.ofNat c]⟩, rfl, k2, hide ⟨HX3.out.alloc _, .inl ⟨HR3.out.below ((Below.refl _ _).alloc (Nat.le_refl _) _), by rw [bsize_append]; show _ + 1 ≤ _; omega, by rw [HAP.out]; exact HE.out⟩⟩⟩
                case measure =>
                  rw [HAT.out, strM_ok (HR3.out.below ((Below.refl _ _).alloc (Nat.le_refl _) (.cells #[.int .u8 (c : Int)] 5)))]; omega
            have HNQ2 := hide (show nx S k ≠ 92 by rw [HNX.out]; exact q92)
            have HE := hide (show r = strR S (k + 1) (T.push (UInt8.ofNat x)) by rw [HSR.out, HNX.out, if_neg q34, if_neg q92, if_neg (by omega)])
            clear q34 q92 HSR
            go_wp2_with fail
            refine (HN.out 34 k _ _ HPz.out hk (by decide) (.inr HNQ.out)).mono ?_; rintro e w1 ⟨rfl, hr1, hx1⟩
            have HR1 := hide hr1
            have HX1 := hide (HXz.out.trans hx1)
            clear hr1 hx1 HPz HXz
            go_wp2_with fail
            refine (HN.out 92 k _ _ HR1.out hk (by decide) (.inr HNQ2.out)).mono ?_; rintro e w2 ⟨rfl, hr2, hx2⟩
            have HR2 := hide hr2
            have HX2 := hide (HX1.out.trans hx2)
            clear hr2 hx2 HR1 HX1
            go_upto_region 7 with fail
            obtain ⟨wd, hwd⟩ : ∃ W, W = w2.drew := ⟨_, rfl⟩
            have HRd := hide (show Rdr wd g S k (0, 0) by rw [hwd]; exact HR2.out.drewN 1)
            have HXd := hide (show Px g w wd by rw [hwd]; exact HX2.out.drew)
            have hH0 : wd.cell? ⟨g, 0, none⟩ = some (.string S) ∧ wd.cell? ⟨g, 1, none⟩ = some (.int .i64 k) := ⟨HRd.out.cells.1, HRd.out.cells.2.1⟩
            refine region_two 12 (fun W => W.cell? ⟨g, 0, none⟩ = some (.string S) ∧ W.cell? ⟨g, 1, none⟩ = some (.int .i64 k)) (by kernel_rfl) (by kernel_rfl) (by rw [← hwd]; exact hH0) (fun hH => ?_)
            rw [← hwd] at hH ⊢
            clear hwd hH0
            simp only [List.take_succ_cons, List.take_zero]
            refine takeH (i := 0) (v := ?_) rfl (by kernel_rfl) (by kernel_rfl) (by kernel_rfl) (fun _ _ _ h => h) (Or.inl ⟨by rfl, ?_⟩) hH ?_
            rotate_left
            · (intro w hSw; (try dsimp only at hSw); go_simp; try with_reducible rfl)
            simp only [Act.put, List.setIfInBounds_toArray, List.set_cons_zero, List.set_cons_succ]
            refine takeH (i := 1) (v := ?_) rfl (by kernel_rfl) (by kernel_rfl) (by kernel_rfl) (fun _ _ _ h => h) (Or.inl ⟨by rfl, ?_⟩) hH ?_
            rotate_left
            · (intro w hSw; (try dsimp only at hSw); go_simp; try with_reducible rfl)
            simp only [Act.put, List.setIfInBounds_toArray, List.set_cons_zero, List.set_cons_succ]
            refine takeH (i := 2) (v := ?_) rfl (by kernel_rfl) (by kernel_rfl) (by kernel_rfl) (fun _ _ _ h => h) (Or.inl ⟨by rfl, ?_⟩) hH ?_
            rotate_left
            · (intro w hSw; (try dsimp only at hSw); go_simp; try with_reducible rfl)
            simp only [Act.put, List.setIfInBounds_toArray, List.set_cons_zero, List.set_cons_succ]
            refine takeH (i := 3) (v := ?_) rfl (by kernel_rfl) (by kernel_rfl) (by kernel_rfl) (fun _ _ _ h => h) (Or.inl ⟨by rfl, ?_⟩) hH ?_
            rotate_left
            · (intro w hSw; (try dsimp only at hSw); go_simp; try with_reducible rfl)
            simp only [Act.put, List.setIfInBounds_toArray, List.set_cons_zero, List.set_cons_succ]
            refine takeH (i := 4) (v := ?_) rfl (by kernel_rfl) (by kernel_rfl) (by kernel_rfl) (fun _ _ _ h => h) (Or.inl ⟨by rfl, ?_⟩) hH ?_
            rotate_left
            · (intro w hSw; (try dsimp only at hSw); go_simp; try with_reducible rfl)
            simp only [Act.put, List.setIfInBounds_toArray, List.set_cons_zero, List.set_cons_succ]
            refine takeH (i := 5) (v := ?_) rfl (by kernel_rfl) (by kernel_rfl) (by kernel_rfl) (fun _ _ _ h => h) (Or.inl ⟨by rfl, ?_⟩) hH ?_
            rotate_left
            · (intro w hSw; (try dsimp only at hSw); go_simp; try with_reducible rfl)
            simp only [Act.put, List.setIfInBounds_toArray, List.set_cons_zero, List.set_cons_succ]
            refine takeH (i := 6) (v := ?_) rfl (by kernel_rfl) (by kernel_rfl) (by kernel_rfl) (fun _ _ _ h => h) (Or.inl ⟨by rfl, ?_⟩) hH ?_
            rotate_left
            · (intro w hSw; (try dsimp only at hSw); go_simp; try with_reducible rfl)
            simp only [Act.put, List.setIfInBounds_toArray, List.set_cons_zero, List.set_cons_succ]
            refine takeH (i := 7) (v := ?_) rfl (by kernel_rfl) (by kernel_rfl) (by kernel_rfl) (fun _ _ _ h => h) (Or.inl ⟨by rfl, ?_⟩) hH ?_
            rotate_left
            · (intro w hSw; (try dsimp only at hSw); go_simp; try with_reducible rfl)
            simp only [Act.put, List.setIfInBounds_toArray, List.set_cons_zero, List.set_cons_succ]
            refine takeH (i := 8) (v := ?_) rfl (by kernel_rfl) (by kernel_rfl) (by kernel_rfl) (fun _ _ _ h => h) (Or.inl ⟨by rfl, ?_⟩) hH ?_
            rotate_left
            · (intro w hSw; (try dsimp only at hSw); go_simp; try with_reducible rfl)
            simp only [Act.put, List.setIfInBounds_toArray, List.set_cons_zero, List.set_cons_succ]
            refine takeH (i := 9) (v := ?_) rfl (by kernel_rfl) (by kernel_rfl) (by kernel_rfl) (fun _ _ _ h => h) (Or.inl ⟨by rfl, ?_⟩) hH ?_
            rotate_left
            · (intro w hSw; (try dsimp only at hSw); go_simp; try with_reducible rfl)
            simp only [Act.put, List.setIfInBounds_toArray, List.set_cons_zero, List.set_cons_succ]
            refine oneH (i := 10) rfl (by kernel_rfl) (fun K hK => ?_)
            go_simp
            have HRe := hide (HRd.out.below ((Below.refl _ _).alloc (Nat.le_refl _) (.cells #[.int .u8 (x : Int)] 5)))
            have HXe := hide (HXd.out.alloc (.cells #[.int .u8 (x : Int)] 5))
            have hcv := conv_u1 x hx2 wd
            obtain ⟨we, hwe⟩ : ∃ W, W = wd.alloc (.cells #[.int .u8 (x : Int)] 5) := ⟨_, rfl⟩
            obtain ⟨ge, hge⟩ : ∃ b, b = wd.heap.size := ⟨_, rfl⟩
            rw [← hwe] at HRe HXe hcv ⊢
            rw [← hge] at hcv ⊢
            clear hwe hge HRd HXd hH
            have hH1 : we.cell? ⟨g, 0, none⟩ = some (.string S) ∧ we.cell? ⟨g, 1, none⟩ = some (.int .i64 k) := ⟨HRe.out.cells.1, HRe.out.cells.2.1⟩
            refine hK.out _ _ hH1 (fun hH => ?_)
            clear hK K
            refine oneH (i := 11) rfl (by kernel_rfl) (fun K hK => ?_)
            go_simp
            refine hK.out _ _ hH1 (fun hH => ?_)
            clear hK K
            refine wpAnyH_done (by kernel_rfl) ?_ _
            unfold TailPost
            simp only [List.drop_succ_cons, List.drop_zero]
            have hov : ¬ 9223372036854775807 < T.size + 1 := by omega
            have HAP := hide (ba_one T x)
            obtain ⟨c0, c1, c2, c3⟩ := HRe.out.cells
            obtain ⟨f1, f2, f3⟩ := HRe.out.free
            clear hH hH1 hcv
            go_wp2_with fail
            go_roundw
            case rel => exact ⟨k + 1, T ++ ⟨#[UInt8.ofNat x]⟩, rfl, hlt, hide ⟨HXe.out.set_ 1 _, .inl ⟨HRe.out.set_ (k + 1), by rw [bsize_append]; show _ + 1 ≤ _; omega, by rw [HAP.out]; exact HE.out⟩⟩⟩
            case measure =>
              have e1 : strM S g (we.setCell ⟨g, 1, none⟩ (.int .i64 ((k : Int) + 1))) = S.size + 1 - (k + 1) := strM_ok (HRe.out.set_ (k + 1))
              rw [HAT.out, e1]; omega
      · have em : moreB S k (0, 0) = false := by unfold moreB; simpa using hlt
        rw [em] at HM1
        have HE := hide (show r = .error (19, (k : Int)) by
          have h0 : nx S k = 0 := nx_past hlt
          rw [HSR.out, h0, if_neg (by omega), if_neg (by omega), if_pos (by omega)])
        clear em HSR
        go_wp2_with fail
        go_quiet ((go_at_call 53; exact Calls.quiet_of (HM1.out _ (HPd.out _))))
        obtain ⟨wz, hwz⟩ : ∃ W, W = wr.drewN nq := ⟨_, rfl⟩
        have HPz := hide (show Rdr wz g S k (0, 0) by rw [hwz]; exact HP.out.drewN _)
        have HXz := hide (show Px g w wz by rw [hwz]; exact HX.out.drewN _)
        rw [← hwz]
        clear hwz HP HX
        obtain ⟨c0, c1, c2, c3⟩ := HPz.out.cells
        go_wp2_with fail
        refine (HF.out k (0, 0) _ HPz.out).mono ?_; rintro e w2 ⟨rfl, hr2, hx2⟩
        have HR2 := hide hr2
        have HX2 := hide (HXz.out.trans hx2)
        clear hr2 hx2 c0 c1 c2 c3
        go_wp2_with fail
        go_ret
        rw [HE.out]
        exact ⟨_, k, hk, rfl, HR2.out, HX2.out⟩
    · have HP := hide h3
      have HX := hide hR.out.1
      have HE := hide h1
      have HNE := hide h2
      have em : moreB S k f = false := by
        unfold moreB
        have : (f.1 == 0) = false := by simpa using h2
        rw [this]; rfl
      have HM1 := hide fun V (h : Rdr V g S k f) => HM.out k f V h
      rw [em] at HM1
      have HPd := hide fun n => h3.drewN n
      clear h1 h2 h3 hR em
      go_wp2_with fail
      go_quiet ((go_at_call 53; exact Calls.quiet_of (HM1.out _ (HPd.out _))))
      obtain ⟨wz, hwz⟩ : ∃ W, W = wr.drewN nq := ⟨_, rfl⟩
      have HPz := hide (show Rdr wz g S k f by rw [hwz]; exact HP.out.drewN _)
      have HXz := hide (show Px g w wz by rw [hwz]; exact HX.out.drewN _)
      rw [← hwz]
      clear hwz HP HX
      obtain ⟨c0, c1, c2, c3⟩ := HPz.out.cells
      go_wp2_with fail
      refine (HF.out k f _ HPz.out).mono ?_; rintro e w2 ⟨rfl, hr2, hx2⟩
      have HR2 := hide (show Rdr w2 g S k f by unfold keepF at hr2; rw [if_neg HNE.out] at hr2; exact hr2)
      have HX2 := hide (HXz.out.trans hx2)
      clear hr2 hx2 c0 c1 c2 c3
      go_wp2_with fail
      go_ret
      rw [HE.out]
      exact ⟨_, k, hk, rfl, HR2.out, HX2.out⟩
end Go.Proofs.YtmmbbndoimleaaaGreatDoor

/- short, line, quote of the reference. -/
namespace Go.Proofs.YtmmbbndoimleaaaGreatDoor
open Go.RowKit

set_option maxHeartbeats 1000000 in
theorem rshort_run (c : Nat) (w : World) :
    Calls Tryz.prog 62 #[.int .u8 c] w fun e w' => e = .returned (.int .u8 (jshN c)) ∧ w = w' := by
  by_cases h34 : c = 34
  · subst h34
    go_enter Tryz.func62, Tryz.ntmps62
    go_wp2_with fail
    go_ret
    exact ⟨rfl, rfl⟩
  by_cases h92 : c = 92
  · subst h92
    go_enter Tryz.func62, Tryz.ntmps62
    go_wp2_with fail
    go_ret
    exact ⟨rfl, rfl⟩
  by_cases h8 : c = 8
  · subst h8
    go_enter Tryz.func62, Tryz.ntmps62
    go_wp2_with fail
    go_ret
    exact ⟨rfl, rfl⟩
  by_cases h9 : c = 9
  · subst h9
    go_enter Tryz.func62, Tryz.ntmps62
    go_wp2_with fail
    go_ret
    exact ⟨rfl, rfl⟩
  by_cases h10 : c = 10
  · subst h10
    go_enter Tryz.func62, Tryz.ntmps62
    go_wp2_with fail
    go_ret
    exact ⟨rfl, rfl⟩
  by_cases h12 : c = 12
  · subst h12
    go_enter Tryz.func62, Tryz.ntmps62
    go_wp2_with fail
    go_ret
    exact ⟨rfl, rfl⟩
  by_cases h13 : c = 13
  · subst h13
    go_enter Tryz.func62, Tryz.ntmps62
    go_wp2_with fail
    go_ret
    exact ⟨rfl, rfl⟩
  have e : jshN c = 0 := by
    unfold jshN
    rw [if_neg (by omega), if_neg h8, if_neg h9, if_neg h10, if_neg h12, if_neg h13]
  rw [e]
  have g1 : ((c : Int) == 34) = false := by simp; omega
  have g2 : ((c : Int) == 92) = false := by simp; omega
  have g3 : ((c : Int) == 8) = false := by simp; omega
  have g4 : ((c : Int) == 9) = false := by simp; omega
  have g5 : ((c : Int) == 10) = false := by simp; omega
  have g6 : ((c : Int) == 12) = false := by simp; omega
  have g7 : ((c : Int) == 13) = false := by simp; omega
  go_enter Tryz.func62, Tryz.ntmps62
  go_wp2_with fail
  go_ret
  exact ⟨rfl, rfl⟩

theorem tabs_push (i : Nat) : (⟨(10 :: List.replicate i 9).toArray⟩ : ByteArray) ++ ⟨#[9]⟩ = ⟨(10 :: List.replicate (i + 1) 9).toArray⟩ := by
  apply ByteArray.ext
  rw [ByteArray.data_append]
  apply Array.toList_inj.1
  rw [List.replicate_succ']
  simp
theorem tabs_size (i : Nat) : (⟨(10 :: List.replicate i 9).toArray⟩ : ByteArray).size = i + 1 := by show (10 :: List.replicate i 9 : List UInt8).toArray.size = _; simp
set_option maxHeartbeats 1000000 in
theorem rline_false (lv : Nat) (w : World) :
    Calls Tryz.prog 34 #[.int .i64 (-1)] w fun e w' => e = .returned (.string (lineB false lv)) ∧ Below w.heap.size w w' := by
  go_enter Tryz.func34, Tryz.ntmps34
  go_wp2_with fail
  go_ret
  exact ⟨rfl, Below.refl _ _⟩
set_option maxHeartbeats 1000000 in
theorem rline_true (lv : Nat) (hlv : lv ≤ 1000) (w : World) :
    Calls Tryz.prog 34 #[.int .i64 lv] w fun e w' => e = .returned (.string (lineB true lv)) ∧ Below w.heap.size w w' := by
  have g0 : decide ((lv : Int) < 0) = false := by simp
  have HB0 := hide (Below.refl w.heap.size w)
  go_enter Tryz.func34, Tryz.ntmps34
  go_wp2_with fail
  go_loopw [3, 4] (fun sv iv wr => ∃ (i : Nat) (T : ByteArray), iv = .int .i64 i ∧ sv = .string T ∧ i ≤ lv ∧ T.size = i + 1 ∧ Hid (T = ⟨(10 :: List.replicate i 9).toArray⟩) ∧ wr = w) (fun _ iv _ => lv - (intOf iv).toNat)
  case atStart => exact ⟨0, ⟨#[10]⟩, rfl, rfl, Nat.zero_le _, rfl, hide rfl, rfl⟩
  case round =>
    obtain ⟨i, T, rfl, rfl, hi, hT, hI, rfl⟩ := hrel
    by_cases hlt : i < lv
    · have HI2 := hide (show T ++ ⟨#[9]⟩ = ⟨(10 :: List.replicate (i + 1) 9).toArray⟩ by rw [hI.out, tabs_push])
      have hs2 : (T ++ ⟨#[9]⟩ : ByteArray).size = i + 1 + 1 := by rw [HI2.out, tabs_size]
      have HS2 := Lib.hid hs2
      clear hs2 hI
      go_wp2_with fail
      go_roundw
      case rel => exact ⟨i + 1, _, by go_num, rfl, by omega, HS2.out, HI2, by first | trivial | rfl⟩
      case measure => simp [intOf]; omega
    · obtain rfl : i = lv := by omega
      go_wp2_with fail
      go_ret
      exact ⟨ret_str hI.out, HB0.out⟩

/-! quote -/
theorem conv_u2 (c d : Nat) (hc : c < 256) (hd : d < 256) (W : World) : (convert 73 9 (.slice (some ⟨W.heap.size, 0, none⟩) 2 2)).run Tryz.prog (W.alloc (.cells #[.int .u8 (c : Int), .int .u8 (d : Int)] 5)) = .ok (.string ⟨#[UInt8.ofNat c, UInt8.ofNat d]⟩) (W.alloc (.cells #[.int .u8 (c : Int), .int .u8 (d : Int)] 5)) := by
  have h : (W.alloc (.cells #[.int .u8 (c : Int), .int .u8 (d : Int)] 5)).ownsRow W.heap.size 5 1 (.slice (some ⟨W.heap.size, 0, none⟩) 2 2) 2 (byL [UInt8.ofNat c, UInt8.ofNat d]) :=
    ⟨rfl, .inr ⟨W.heap.size, 2, #[Value.int .u8 (c : Int), Value.int .u8 (d : Int)], rfl, Nat.le_refl _, heap_alloc_new W _, by omega, by simp [maxLen], rfl, by unfold byL; simp; omega⟩⟩
  exact conv_row (b := W.heap.size) (l := [UInt8.ofNat c, UInt8.ofNat d]) h
theorem hexN_lt (h : Nat) : (hexN h).toNat < 256 := (hexN h).toNat_lt
/-- What stands ahead of a place in a quoted text. -/
def rqp (S : ByteArray) (i : Nat) : ByteArray := ⟨(34 :: jqS (S.data.toList.take i)).toArray⟩
theorem rqp_size (S : ByteArray) (i : Nat) : (rqp S i).size ≤ 1 + 6 * i := by
  have h := jqS_len (S.data.toList.take i)
  have h2 : (S.data.toList.take i).length ≤ i := by rw [List.length_take]; omega
  show (34 :: jqS (S.data.toList.take i)).toArray.size ≤ _
  rw [List.size_toArray, List.length_cons]; omega
theorem rqp_push {S : ByteArray} {i : Nat} (h : i < S.size) : rqp S (i + 1) = rqp S i ++ ⟨(jqL (S[i]).toNat).toArray⟩ := by
  have hcl : S.data.toList[i]? = some S[i] := by
    rw [List.getElem?_eq_getElem (by rw [Array.length_toList]; exact h)]; rfl
  unfold rqp
  apply ByteArray.ext
  rw [ByteArray.data_append]
  apply Array.toList_inj.1
  rw [List.take_add_one, hcl, jqS_append]
  simp [jqS]
theorem rqp_all (S : ByteArray) : rqp S S.size ++ ⟨#[34]⟩ = jqB S := by
  unfold rqp jqB
  apply ByteArray.ext
  rw [ByteArray.data_append]
  apply Array.toList_inj.1
  have : S.data.toList.take S.size = S.data.toList := List.take_of_length_le (by rw [Array.length_toList]; exact Nat.le_refl _)
  rw [this]
  simp
theorem rba_hex (T : ByteArray) (a b : UInt8) : (T ++ ⟨#[92, 117, 48, 48]⟩) ++ ⟨#[a, b]⟩ = T ++ ⟨[92, 117, 48, 48, a, b].toArray⟩ := by rw [ByteArray.append_assoc]; rfl

set_option maxRecDepth 20000 in
set_option maxHeartbeats 4000000 in
theorem rquote_run (S : ByteArray) (hS : S.size ≤ 166700000) (w : World) :
    Calls Tryz.prog 32 #[.string S] w fun e w' => e = .returned (.string (jqB S)) ∧ Below w.heap.size w w' := by
  obtain ⟨N, hN⟩ : ∃ N, N = S.size := ⟨_, rfl⟩
  have HNN := Lib.hid hN
  have hN1 : N ≤ 166700000 := by omega
  have HSH := hide fun c W => rshort_run c W
  have HB0 := hide (Below.refl w.heap.size w)
  have HFIN := hide (show rqp S N ++ ⟨#[34]⟩ = jqB S by rw [hN]; exact rqp_all S)
  have hNI : (S.size : Int) = (N : Int) := by omega
  clear hS
  go_enter Tryz.func32, Tryz.ntmps32
  go_wp2_with fail
  go_loopw [4, 5] (fun ov iv wr => ∃ (i : Nat) (T : ByteArray), iv = .int .i64 i ∧ ov = .string T ∧ i ≤ N ∧ T.size ≤ 1 + 6 * i ∧ Hid (T = rqp S i) ∧ Hid (Below w.heap.size w wr)) (fun _ iv _ => N - (intOf iv).toNat)
  case atStart => exact ⟨0, ⟨#[34]⟩, rfl, rfl, Nat.zero_le _, by decide, hide rfl, HB0⟩
  case round =>
    clear HB0
    obtain ⟨i, T, rfl, rfl, hi, hT, hI, hB⟩ := hrel
    by_cases hlt : i < N
    · have hlt' : i < S.size := by rw [← HNN.out]; exact hlt
      obtain ⟨c, hc⟩ : ∃ c, c = (S[i]).toNat := ⟨_, rfl⟩
      have hc2 : c < 256 := by rw [hc]; exact (S[i]).toNat_lt
      have hS2 : (S[i]).toNat = c := hc.symm
      have HXX := hide (show T ++ ⟨(jqL c).toArray⟩ = rqp S (i + 1) by rw [rqp_push hlt', hI.out, hc])
      have HQZ := hide (rqp_size S (i + 1))
      obtain ⟨q, hq⟩ : ∃ q, q = jshN c := ⟨_, rfl⟩
      have hq2 : q < 256 := by rw [hq]; exact jsh_lt c hc2
      have HQ := Lib.hid hq
      have HS1 := hide fun W => HSH.out c W
      rw [← hq] at HS1
      have hov1 : ¬ 9223372036854775807 < T.size + 2 := by omega
      have hov2 : ¬ 9223372036854775807 < T.size + 1 := by omega
      have hov4 : ¬ 9223372036854775807 < T.size + 4 := by omega
      have hov6 : ¬ 9223372036854775807 < T.size + 4 + 2 := by omega
      clear hq hc hI
      by_cases hq0 : q = 0
      · subst hq0
        by_cases h126 : c < 32 ∨ 126 < c
        · have HXL := hide (show jqL c = [92, 117, 48, 48, hexN (c / 16), hexN (c % 16)] by unfold jqL; rw [← HQ.out, if_neg (by simp), if_pos h126])
          obtain ⟨hi2, hhi⟩ : ∃ hi, hi = c / 16 := ⟨_, rfl⟩
          obtain ⟨lo, hlo⟩ : ∃ hi, hi = c % 16 := ⟨_, rfl⟩
          have e1 : (c : Int) / 16 = (hi2 : Int) := by omega
          have e2 : (c : Int).tmod 16 = (lo : Int) := by rw [Int.tmod_eq_emod_of_nonneg (by omega)]; omega
          have l1 : hi2 < 16 := by omega
          have l2 : lo < 16 := by omega
          have w1 : IntKind.u8.wrap (hi2 : Int) = (hi2 : Int) := by rw [IntKind.wrap_u8]; omega
          have w2 : IntKind.u8.wrap (lo : Int) = (lo : Int) := by rw [IntKind.wrap_u8]; omega
          have hs1 := fun W => byte_idx hi2 l1 .u8 W
          have hs2 := fun W => byte_idx lo l2 .u8 W
          rw [← hhi, ← hlo] at HXL
          have hg : (decide ((c : Int) < 32) = true ∧ True) ∨ (decide ((c : Int) < 32) = false ∧ decide ((c : Int) > 126) = true) := by
            rcases h126 with h | h
            · exact .inl ⟨by simp; omega, trivial⟩
            · exact .inr ⟨by simp; omega, by simp; omega⟩
          clear hhi hlo h126
          rcases hg with ⟨g6, g7⟩ | ⟨g6, g7⟩
          all_goals
            go_wp2_with fail
            refine (HS1.out _).mono ?_; rintro e w1 ⟨rfl, rfl⟩
            go_upto_region 11 with fail
            refine region_two 12 (fun _ => True) (by kernel_rfl) (by kernel_rfl) trivial (fun hH => ?_)
            obtain ⟨wd, hwd⟩ : ∃ W, W = wr.drew := ⟨_, rfl⟩
            have HB1 := hide (show Below w.heap.size w wd by rw [hwd]; exact hB.out.drew)
            have hbs1 := HB1.out.size
            rw [← hwd]
            clear hwd hB
            simp only [List.take_succ_cons, List.take_zero]
            refine takeH (i := 0) (v := ?_) rfl (by kernel_rfl) (by kernel_rfl) (by kernel_rfl) (fun _ _ _ h => h) (Or.inl ⟨by rfl, ?_⟩) hH ?_
            rotate_left
            · (intro w hSw; (try dsimp only at hSw); go_simp; try with_reducible rfl)
            simp only [Act.put, List.setIfInBounds_toArray, List.set_cons_zero, List.set_cons_succ]
            refine takeH (i := 1) (v := ?_) rfl (by kernel_rfl) (by kernel_rfl) (by kernel_rfl) (fun _ _ _ h => h) (Or.inl ⟨by rfl, ?_⟩) hH ?_
            rotate_left
            · (intro w hSw; (try dsimp only at hSw); go_simp; try with_reducible rfl)
            simp only [Act.put, List.setIfInBounds_toArray, List.set_cons_zero, List.set_cons_succ]
            refine takeH (i := 2) (v := ?_) rfl (by kernel_rfl) (by kernel_rfl) (by kernel_rfl) (fun _ _ _ h => h) (Or.inl ⟨by rfl, ?_⟩) hH ?_
            rotate_left
            · (intro w hSw; (try dsimp only at hSw); go_simp; try with_reducible rfl)
            simp only [Act.put, List.setIfInBounds_toArray, List.set_cons_zero, List.set_cons_succ]
            refine takeH (i := 3) (v := ?_) rfl (by kernel_rfl) (by kernel_rfl) (by kernel_rfl) (fun _ _ _ h => h) (Or.inl ⟨by rfl, ?_⟩) hH ?_
            rotate_left
            · (intro w hSw; (try dsimp only at hSw); go_simp; try with_reducible rfl)
            simp only [Act.put, List.setIfInBounds_toArray, List.set_cons_zero, List.set_cons_succ]
            refine takeH (i := 4) (v := ?_) rfl (by kernel_rfl) (by kernel_rfl) (by kernel_rfl) (fun _ _ _ h => h) (Or.inl ⟨by rfl, ?_⟩) hH ?_
            rotate_left
            · (intro w hSw; (try dsimp only at hSw); go_simp; try with_reducible rfl)
            simp only [Act.put, List.setIfInBounds_toArray, List.set_cons_zero, List.set_cons_succ]
            refine takeH (i := 5) (v := ?_) rfl (by kernel_rfl) (by kernel_rfl) (by kernel_rfl) (fun _ _ _ h => h) (Or.inl ⟨by rfl, ?_⟩) hH ?_
            rotate_left
            · (intro w hSw; (try dsimp only at hSw); go_simp; try with_reducible rfl)
            simp only [Act.put, List.setIfInBounds_toArray, List.set_cons_zero, List.set_cons_succ]
            refine takeH (i := 6) (v := ?_) rfl (by kernel_rfl) (by kernel_rfl) (by kernel_rfl) (fun _ _ _ h => h) (Or.inl ⟨by rfl, ?_⟩) hH ?_
            rotate_left
            · (intro w hSw; (try dsimp only at hSw); go_simp; try with_reducible rfl)
            simp only [Act.put, List.setIfInBounds_toArray, List.set_cons_zero, List.set_cons_succ]
            refine takeH (i := 7) (v := ?_) rfl (by kernel_rfl) (by kernel_rfl) (by kernel_rfl) (fun _ _ _ h => h) (Or.inl ⟨by rfl, ?_⟩) hH ?_
            rotate_left
            · (intro w hSw; (try dsimp only at hSw); go_simp; try with_reducible rfl)
            simp only [Act.put, List.setIfInBounds_toArray, List.set_cons_zero, List.set_cons_succ]
            refine takeH (i := 8) (v := ?_) rfl (by kernel_rfl) (by kernel_rfl) (by kernel_rfl) (fun _ _ _ h => h) (Or.inl ⟨by rfl, ?_⟩) hH ?_
            rotate_left
            · (intro w hSw; (try dsimp only at hSw); go_simp; try with_reducible rfl)
            simp only [Act.put, List.setIfInBounds_toArray, List.set_cons_zero, List.set_cons_succ]
            refine takeH (i := 9) (v := ?_) rfl (by kernel_rfl) (by kernel_rfl) (by kernel_rfl) (fun _ _ _ h => h) (Or.inl ⟨by rfl, ?_⟩) hH ?_
            rotate_left
            · (intro w hSw; (try dsimp only at hSw); go_simp; try with_reducible rfl)
            simp only [Act.put, List.setIfInBounds_toArray, List.set_cons_zero, List.set_cons_succ]
            refine oneH (i := 10) rfl (by kernel_rfl) (fun K hK => ?_)
            go_simp
            have hcv := conv_u2 (hexN hi2).toNat (hexN lo).toNat (hexN_lt _) (hexN_lt _) wd
            rw [UInt8.ofNat_toNat, UInt8.ofNat_toNat] at hcv
            have HBe := hide (HB1.out.alloc hbs1 (.cells #[.int .u8 ((hexN hi2).toNat : Int), .int .u8 ((hexN lo).toNat : Int)] 5))
            obtain ⟨we, hwe⟩ : ∃ W, W = wd.alloc (.cells #[.int .u8 ((hexN hi2).toNat : Int), .int .u8 ((hexN lo).toNat : Int)] 5) := ⟨_, rfl⟩
            obtain ⟨ge, hge⟩ : ∃ b, b = wd.heap.size := ⟨_, rfl⟩
            rw [← hwe] at HBe hcv ⊢
            rw [← hge] at hcv ⊢
            clear hwe hge
            refine hK.out _ _ trivial (fun hH => ?_)
            clear hK K
            refine oneH (i := 11) rfl (by kernel_rfl) (fun K hK => ?_)
            go_simp
            refine hK.out _ _ trivial (fun hH => ?_)
            clear hK K
            refine wpAnyH_done (by kernel_rfl) ?_ _
            unfold TailPost
            simp only [List.drop_succ_cons, List.drop_zero]
            clear hs1 hs2 hH hcv
            have HTT := hide (show (T ++ ⟨#[92, 117, 48, 48]⟩) ++ ⟨#[hexN hi2, hexN lo]⟩ = rqp S (i + 1) by rw [rba_hex, ← HXL.out]; exact HXX.out)
            have hov3 : (T ++ ⟨#[92, 117, 48, 48]⟩ : ByteArray).size = T.size + 4 := by rw [bsize_append]; rfl
            go_wp2_with fail
            go_roundw
            case rel => exact ⟨i + 1, _, by go_num, rfl, by omega, by rw [HTT.out]; exact HQZ.out, HTT, HBe⟩
            case measure => simp [intOf]; omega
        · have HXL := hide (show jqL c = [UInt8.ofNat c] by unfold jqL; rw [← HQ.out, if_neg (by simp), if_neg h126])
          have g6 : decide ((c : Int) < 32) = false := by simp; omega
          have g7 : decide ((c : Int) > 126) = false := by simp; omega
          have HTT := hide (show T ++ ⟨#[UInt8.ofNat c]⟩ = rqp S (i + 1) by rw [← HXX.out, HXL.out])
          clear h126
          go_wp2_with fail
          refine (HS1.out _).mono ?_; rintro e w1 ⟨rfl, rfl⟩
          have hcv := conv_u1 c hc2 wr
          have HBe := hide (hB.out.alloc hB.out.size (.cells #[.int .u8 (c : Int)] 5))
          clear hB
          go_wp2_with fail
          go_roundw
          case rel => exact ⟨i + 1, _, by go_num, rfl, by omega, by rw [HTT.out]; exact HQZ.out, HTT, HBe⟩
          case measure => simp [intOf]; omega
      · have HXL := hide (show jqL c = [92, UInt8.ofNat q] by unfold jqL; rw [← HQ.out, if_pos hq0])
        have g5 : ((q : Int) != 0) = true := by simp; omega
        have HTT := hide (show T ++ ⟨#[92, UInt8.ofNat q]⟩ = rqp S (i + 1) by rw [← HXX.out, HXL.out])
        go_wp2_with fail
        refine (HS1.out _).mono ?_; rintro e w1 ⟨rfl, rfl⟩
        go_wp2_with fail
        refine (HS1.out _).mono ?_; rintro e w1 ⟨rfl, rfl⟩
        have hcv : (convert 73 9 (.slice (some ⟨wr.heap.size, 0, none⟩) 2 2)).run Tryz.prog (wr.alloc (.cells #[.int .u8 92, .int .u8 (q : Int)] 5)) = .ok (.string ⟨#[92, UInt8.ofNat q]⟩) (wr.alloc (.cells #[.int .u8 92, .int .u8 (q : Int)] 5)) := conv_u2 92 q (by decide) hq2 wr
        have HBe := hide (hB.out.alloc hB.out.size (.cells #[.int .u8 92, .int .u8 (q : Int)] 5))
        clear hB
        go_wp2_with fail
        go_roundw
        case rel => exact ⟨i + 1, _, by go_num, rfl, by omega, by rw [HTT.out]; exact HQZ.out, HTT, HBe⟩
        case measure => simp [intOf]; omega
    · obtain rfl : i = N := by omega
      have hov1 : ¬ 9223372036854775807 < T.size + 1 := by omega
      go_wp2_with fail
      go_ret
      exact ⟨ret_str (by rw [hI.out]; exact HFIN.out), hB.out⟩
end Go.Proofs.YtmmbbndoimleaaaGreatDoor

/- strings.Join by a comma; the facts on texts that the printer's walk leans on. -/
namespace Go.Proofs.YtmmbbndoimleaaaGreatDoor
open Go.RowKit Go.Shelf

theorem joinC_run (u : Value) (l : List ByteArray) (base : Nat) (w : World) (hown : w.ownsRow base 9 1 u l.length (strsV l)) (hl : sumN (fun x => x.size + 1) l ≤ 1000000000) :
    Calls Tryz.prog 61 #[u, .string ⟨#[44]⟩] w fun r w' => r = .returned (.string (joinC l)) ∧ Below w.heap.size w w' := by
  have hlen : l.length ≤ 1000000000 := Nat.le_trans (sumN_len (fun x : ByteArray => x.size + 1) (fun x => by omega) l) hl
  have hjl := joinC_len l
  unfold joinC
  rcases hown.2 with ⟨rfl, hn⟩ | ⟨g, cap, cur, rfl, hb, hg, hc, _⟩
  · have : l = [] := List.eq_nil_of_length_eq_zero hn
    subst this
    exact (Any.strings_Join_none joinL joinExtra none 0 ⟨#[44]⟩ w).mono fun e w' ⟨he, hw⟩ => ⟨he, hw ▸ Below.refl _ _⟩
  · have hgl : g < w.heap.size := (Array.getElem?_eq_some_iff.1 hg).1
    exact Any.strings_Join joinL joinExtra g 0 cap l ⟨#[44]⟩ w (fun j x hx => by
      rw [Nat.zero_add]
      have := hown.cells rfl j _ (strsV_get hx)
      rw [add_head] at this
      exact this) (by omega) (by omega) hc (by show (Lib.join (l.map (·.data.toList)) [44]).length ≤ _; omega)
theorem own_form {w : World} {base : Nat} {e : TypeId} {size n : Nat} {u : Value} {xs : List Value} (h : w.ownsRow base e size u n xs) : ∃ A c, u = .slice A n c := by
  rcases h.2 with ⟨rfl, hn⟩ | ⟨g, cap, cur, rfl, _⟩
  · exact ⟨none, 0, by rw [hn]⟩
  · exact ⟨_, _, rfl⟩
theorem jbF_kids {m : Nat} {d : Dt} : (∀ x ∈ iD d, jbF m x ≤ jbF (m + 1) d) ∧ (∀ x ∈ mD d, x.1.size + jbF m x.2 ≤ jbF (m + 1) d) := by
  constructor
  · intro x hx
    have := sumN_le (fun x => 100 + jbF m x) hx
    rw [jbF]; omega
  · intro x hx
    have := sumN_le (fun x : ByteArray × Dt => 100 + 6 * x.1.size + jbF m x.2) hx
    rw [jbF]; omega
theorem sum_one {l : List ByteArray} : sumN (fun x : ByteArray => x.size + 1) l ≤ sumN (fun x => x.size + 50) l := sumN_mono fun x _ => by omega
theorem str_le {l : List ByteArray} {n : Nat} (h : sumN (fun x : ByteArray => x.size + 50) l ≤ n) : ∀ x ∈ l, x.size + 50 ≤ n := fun x hx => by
  have := sumN_le (fun x : ByteArray => x.size + 50) hx
  omega
theorem list_one {b : Bool} {lv : Nat} {f : Dt → ByteArray} {d : Dt} (hm : mD d = []) : jparts b lv f d = (iD d).map (jpartI b lv f) := by unfold jparts; rw [hm]; simp
theorem mems_one {b : Bool} {lv : Nat} {f : Dt → ByteArray} {d : Dt} (hi : iD d = []) : jparts b lv f d = (mD d).map (jpartM b lv f) := by unfold jparts; rw [hi]; simp
theorem jt_str {b : Bool} {m lv : Nat} {d : Dt} (h : kD d = 4) : jtF b (m + 1) lv d = jqB (sD d) := by rw [jtF, if_pos h]
theorem jt_leaf {b : Bool} {m lv : Nat} {d : Dt} (h : kD d = 1 ∨ kD d = 2 ∨ kD d = 3) : jtF b (m + 1) lv d = textD (m + 1) d := by rw [jtF, if_neg (by omega), if_pos h]
theorem jt_wrap {b : Bool} {m lv : Nat} {d : Dt} (h : kD d = 5 ∨ kD d = 6) : jtF b (m + 1) lv d = wrapB b lv (kD d) (jparts b lv (jtF b m (lv + 1)) d) := by rw [jtF, if_neg (by omega), if_neg (by omega)]
theorem wrap_nil {b : Bool} {lv : Nat} {k : Int} {L : List ByteArray} (h : L.length = 0) : wrapB b lv k L = openB k ++ shutB k := by unfold wrapB; rw [if_pos h]
theorem wrap_cons {b : Bool} {lv : Nat} {k : Int} {L : List ByteArray} (h : L.length ≠ 0) : wrapB b lv k L = openB k ++ joinC L ++ lineB b lv ++ shutB k := by unfold wrapB; rw [if_neg h]
end Go.Proofs.YtmmbbndoimleaaaGreatDoor

/- What the reference's printer lays down, plain. -/
namespace Go.Proofs.YtmmbbndoimleaaaGreatDoor
open Go.RowKit

theorem joinC_push (L : List ByteArray) (x : ByteArray) : joinC (L ++ [x]) = (if 0 < L.length then joinC L ++ ⟨#[44]⟩ else joinC L) ++ x := by
  cases L with
  | nil =>
    rw [if_neg (by simp)]
    unfold joinC
    apply ByteArray.ext
    rw [ByteArray.data_append]
    apply Array.toList_inj.1
    rw [List.nil_append, List.map_cons, List.map_nil, Lib.join_one]
    simp [Lib.join_nil]
  | cons y L =>
    rw [if_pos (by simp)]
    unfold joinC
    apply ByteArray.ext
    rw [ByteArray.data_append, ByteArray.data_append]
    apply Array.toList_inj.1
    rw [List.cons_append, List.map_cons, List.map_cons, Lib.join_cons, Lib.join_cons]
    unfold Lib.joinTail
    simp
/-- An opening byte and the first parts. -/
def jpre (o : ByteArray) (L : List ByteArray) : ByteArray := o ++ joinC L
theorem jpre_push (o : ByteArray) (L : List ByteArray) (x : ByteArray) : jpre o (L ++ [x]) = (if 0 < L.length then jpre o L ++ ⟨#[44]⟩ else jpre o L) ++ x := by
  unfold jpre
  rw [joinC_push]
  split
  · simp only [ByteArray.append_assoc]
  · simp only [ByteArray.append_assoc]
theorem sum_pre {l L : List ByteArray} (h : l <+: L) : sumN (fun x : ByteArray => x.size + 1) l ≤ sumN (fun x => x.size + 1) L := by
  obtain ⟨t, rfl⟩ := h
  rw [sumN_append]; omega
theorem jpre_size {o : ByteArray} {L : List ByteArray} (ho : o.size = 1) (h : sumN (fun x : ByteArray => x.size + 1) L ≤ 1000000000) (i : Nat) : (jpre o (L.take i)).size ≤ 1000000001 := by
  unfold jpre
  rw [bsize_append]
  have := joinC_size (L.take i)
  have := sum_pre (List.take_prefix i L)
  omega
theorem take_push {α : Type} {L : List α} {i : Nat} {x : α} (h : L[i]? = some x) : L.take (i + 1) = L.take i ++ [x] := by
  rw [List.take_add_one, h]; rfl
theorem take_len {α : Type} {L : List α} {i : Nat} (h : i ≤ L.length) : (L.take i).length = i := by rw [List.length_take]; omega
end Go.Proofs.YtmmbbndoimleaaaGreatDoor
