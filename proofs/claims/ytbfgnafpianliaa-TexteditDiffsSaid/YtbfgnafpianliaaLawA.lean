/- The laws on Apply, Shift and Invert: the walks. -/
import Derived.Test.YtbfgnafpianliaaEx
namespace Go.Proofs.Ytbfgnafpianliaa
open Go.RowKit

theorem small_fit {s : ByteArray} {es : List Ed} (h : smallP s es = true) : s.size ≤ 400 ∧ es.length ≤ 20 ∧ (∀ e ∈ es, e.tx.size ≤ 60) ∧ Fit es := by
  unfold smallP at h
  simp only [Bool.and_eq_true, decide_eq_true_eq] at h
  obtain ⟨⟨h1, h2⟩, h3⟩ := h
  have key : ∀ l : List Ed, smallL l = true → ∀ e ∈ l, e.tx.size ≤ 60 := by
    intro l
    induction l with
    | nil => intro _ e he; cases he
    | cons a l ih =>
      intro hl e he
      unfold smallL at hl
      split at hl
      · cases hl
      · rcases List.mem_cons.1 he with rfl | he
        · omega
        · exact ih hl e he
  exact ⟨h2, h3, key es h1, by omega, fun e he => by have := key es h1 e he; omega⟩

theorem Applies_run (s : ByteArray) (v : Value) (es : List Ed) (w : World) (h : Eds w w.heap.size v es) (hs : s.size ≤ maxLen) :
    Calls Try.prog 3 #[.string s, v] w fun e w' => e = .returned (.bool true) ∧ Below w.heap.size w w' := by
  have HSM := hide (Small_run s v es w _ h hs)
  have HE := hide h
  obtain ⟨b, hb⟩ : ∃ b, b = smallP s es := ⟨_, rfl⟩
  rw [← hb] at HSM
  have HBB := Lib.hid hb
  clear h hs hb
  go_enter Try.func3, Try.ntmps3
  cases b with
  | false =>
    go_wp2_with fail
    refine (unhide HSM).mono ?_; rintro e w' ⟨rfl, rfl⟩
    go_wp2_with fail
    refine (example_run w).mono ?_; rintro e w' ⟨rfl, hB⟩
    go_wp2_with fail
    go_ret
    exact ⟨rfl, hB⟩
  | true =>
    obtain ⟨h1, h2, h3, hF⟩ := small_fit HBB.out.symm
    have HF := hide hF
    have hs : s.size ≤ 1000000000000 := by omega
    have hs' : s.size ≤ maxLen := by unfold maxLen; omega
    obtain ⟨r, hr⟩ : ∃ r, r = applyP s es := ⟨_, rfl⟩
    obtain ⟨c, hc⟩ : ∃ c, c = checkP s.size es := ⟨_, rfl⟩
    have HA := hide (Apply_run s v es w HE.out hF hs)
    rw [← hr] at HA
    have HRR := Lib.hid hr; have HCC := Lib.hid hc
    clear h1 h2 h3 hF hr hc
    go_wp2_with fail
    refine (unhide HSM).mono ?_; rintro e w' ⟨rfl, rfl⟩
    go_wp2_with fail
    refine (unhide HA).mono ?_; rintro e w1 ⟨rfl, hB1⟩
    have HE1 := hide ((HE.out.same (Same.of_below hB1)).more hB1.size)
    have HB1 := hide hB1
    have HA2 := hide (refApply_run s v es w1 _ HE1.out HF.out hs)
    rw [← HRR.out] at HA2
    clear hB1 HA
    go_wp2_with fail
    refine (unhide HA2).mono ?_; rintro e w' ⟨rfl, m, rfl⟩
    have HE2 := hide (show Eds (w1.drewN m) (w1.drewN m).heap.size v es from HE1.out.same (Same.drewN m))
    have HB2 := hide (below_drewN HB1.out m)
    have HC := hide (Check_run s v es (w1.drewN m) HE2.out hs')
    rw [← HCC.out] at HC
    clear HA2 HE1 HB1
    go_wp2_with fail
    refine (unhide HC).mono ?_; rintro e w2 ⟨rfl, hB3⟩
    have HE3 := hide ((HE2.out.same (Same.of_below hB3)).more hB3.size)
    have HB3 := hide (HB2.out.trans (hB3.mono HB2.out.size))
    have HC2 := hide (refCheck_run s v es w2 _ HE3.out hs')
    rw [← HCC.out] at HC2
    have hcc : (c == c) = true := by simp
    have hrr : (r.2 == r.2) = true := by simp
    have hrs : (r.1.toList == r.1.toList) = true := by simp
    clear HC hB3 HE2 HB2
    go_wp2_with fail
    refine (unhide HC2).mono ?_; rintro e w' ⟨rfl, m', rfl⟩
    have HX := hide (example_run (w2.drewN m'))
    go_wp2_with fail
    refine (unhide HX).mono ?_; rintro e w3 ⟨rfl, hB4⟩
    have HB4 := hide ((below_drewN HB3.out m').trans (hB4.mono HB3.out.size))
    clear hB4
    go_wp2_with fail
    go_ret
    exact ⟨rfl, HB4.out⟩

theorem Shifts_run (n : Int) (v : Value) (es : List Ed) (w : World) (h : Eds w w.heap.size v es) (hM : ∀ e ∈ es, e.to ≤ 9223372036854775807) :
    Calls Try.prog 4 #[.int .i64 n, v] w fun e w' => e = .returned (.bool true) ∧ Below w.heap.size w w' := by
  have HSM := hide (Small_run ⟨#[]⟩ v es w _ h (Nat.zero_le _))
  have HE := hide h
  have HMM := hide hM
  obtain ⟨b, hb⟩ : ∃ b, b = smallP ⟨#[]⟩ es := ⟨_, rfl⟩
  rw [← hb] at HSM
  have HBB := Lib.hid hb
  clear h hb hM
  go_enter Try.func4, Try.ntmps4
  cases b with
  | false =>
    go_wp2_with fail
    refine (unhide HSM).mono ?_; rintro e w' ⟨rfl, rfl⟩
    go_wp2_with fail
    refine (example_run w).mono ?_; rintro e w' ⟨rfl, hB⟩
    go_wp2_with fail
    go_ret
    exact ⟨rfl, hB⟩
  | true =>
    obtain ⟨h1, h2, h3, hF⟩ := small_fit HBB.out.symm
    have HF := hide hF
    obtain ⟨r, hr⟩ : ∃ r, r = shiftP n es := ⟨_, rfl⟩
    have HA := hide (Shift_run n v es w HE.out hF)
    rw [← hr] at HA
    have HRR := Lib.hid hr
    clear h1 h2 h3 hF hr
    go_wp2_with fail
    refine (unhide HSM).mono ?_; rintro e w' ⟨rfl, rfl⟩
    go_wp2_with fail
    refine (unhide HA).mono ?_; rintro e w1 ⟨rfl, hB1⟩
    have HE1 := hide ((HE.out.same (Same.of_below hB1)).more hB1.size)
    have HB1 := hide hB1
    have HA2 := hide (refShift_run n v es w1 _ HE1.out HF.out HMM.out)
    rw [← HRR.out] at HA2
    have hrr : (r == r) = true := by simp
    clear hB1 HA
    go_wp2_with fail
    refine (unhide HA2).mono ?_; rintro e w' ⟨rfl, m, rfl⟩
    have HX := hide (example_run (w1.drewN m))
    clear HA2 HE1
    go_wp2_with fail
    refine (unhide HX).mono ?_; rintro e w3 ⟨rfl, hB4⟩
    have HB4 := hide ((below_drewN HB1.out m).trans (hB4.mono HB1.out.size))
    clear hB4
    go_wp2_with fail
    go_ret
    exact ⟨rfl, HB4.out⟩

theorem Inverts_run (s : ByteArray) (v : Value) (es : List Ed) (w : World) (h : Eds w w.heap.size v es) (hs : s.size ≤ maxLen) :
    Calls Try.prog 5 #[.string s, v] w fun e w' => e = .returned (.bool true) ∧ Below w.heap.size w w' := by
  have HSM := hide (Small_run s v es w _ h hs)
  have HE := hide h
  obtain ⟨b, hb⟩ : ∃ b, b = smallP s es := ⟨_, rfl⟩
  rw [← hb] at HSM
  have HBB := Lib.hid hb
  clear h hs hb
  go_enter Try.func5, Try.ntmps5
  cases b with
  | false =>
    go_wp2_with fail
    refine (unhide HSM).mono ?_; rintro e w' ⟨rfl, rfl⟩
    go_wp2_with fail
    refine (example_run w).mono ?_; rintro e w' ⟨rfl, hB⟩
    go_wp2_with fail
    go_ret
    exact ⟨rfl, hB⟩
  | true =>
    obtain ⟨h1, h2, h3, hF⟩ := small_fit HBB.out.symm
    have HF := hide hF
    have hs : s.size ≤ 1000000000000 := by omega
    obtain ⟨r, hr⟩ : ∃ r, r = invertP s es := ⟨_, rfl⟩
    have HA := hide (Invert_run s v es w HE.out hF hs)
    rw [← hr] at HA
    have HRR := Lib.hid hr
    clear h1 h2 h3 hF hr
    go_wp2_with fail
    refine (unhide HSM).mono ?_; rintro e w' ⟨rfl, rfl⟩
    go_wp2_with fail
    refine (unhide HA).mono ?_; rintro e w1 ⟨u1, rfl, hB1, hM1⟩
    have HE1 := hide ((HE.out.same (Same.of_below hB1)).more hB1.size)
    have HB1 := hide hB1
    have HM1 := hide hM1
    have HA2 := hide (refInvert_run s v es w1 HE1.out HF.out hs)
    rw [← HRR.out] at HA2
    clear hB1 HA hM1
    go_wp2_with fail
    refine (unhide HA2).mono ?_; rintro e w2 ⟨u2, rfl, hB2, hM2⟩
    have HQ := hide (Same_run u1 u2 r.1 r.1 w2 _ ((HM1.out.same (Same.of_below hB2)).more hB2.size) hM2)
    rw [sameL_refl] at HQ
    have HB2 := hide (HB1.out.trans (hB2.mono HB1.out.size))
    have hrr : (r.2 == r.2) = true := by simp
    clear HA2 HE1 HM1 hM2 hB2 HB1
    go_wp2_with fail
    refine (unhide HQ).mono ?_; rintro e w' ⟨rfl, m, rfl⟩
    have HX := hide (example_run (w2.drewN m))
    go_wp2_with fail
    refine (unhide HX).mono ?_; rintro e w3 ⟨rfl, hB4⟩
    have HB4 := hide ((below_drewN HB2.out m).trans (hB4.mono HB2.out.size))
    clear hB4
    go_wp2_with fail
    go_ret
    exact ⟨rfl, HB4.out⟩
end Go.Proofs.Ytbfgnafpianliaa
