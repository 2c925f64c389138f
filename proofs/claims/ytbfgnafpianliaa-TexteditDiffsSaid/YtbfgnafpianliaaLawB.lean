/- Apply after Invert: the walk. -/
import Derived.Test.YtbfgnafpianliaaLawA
import Derived.Test.YtbfgnafpianliaaBackP
namespace Go.Proofs.Ytbfgnafpianliaa
open Go.RowKit

theorem applyP_bad {s : ByteArray} {es : List Ed} (h : (applyP s es).2 ≠ 0) : (applyP s es).1 = ByteArray.empty := by
  unfold applyP at h ⊢
  split
  · rfl
  · split
    · rfl
    · rename_i h1 h2
      rw [if_neg h1, if_neg h2] at h
      exact absurd rfl h
theorem applyP_good {s : ByteArray} {es : List Ed} (h : (applyP s es).2 = 0) : Chain s.size 0 es ∧ (applyP s es).1 = joinP s ByteArray.empty 0 es ∧ sizeP s.size es ≤ 65536 := by
  unfold applyP at h ⊢
  split at h
  · rename_i h1; exact absurd h h1
  · rename_i h1
    rw [if_neg h1]
    split at h
    · cases h
    · rename_i h2
      rw [if_neg h2]
      exact ⟨chain_of_check (by omega) (by simpa using h1), rfl, by omega⟩

set_option maxHeartbeats 1000000 in
theorem Back_run (s : ByteArray) (v : Value) (es : List Ed) (w : World) (h : Eds w w.heap.size v es) (hs : s.size ≤ maxLen) :
    Calls Try.prog 6 #[.string s, v] w fun e w' => e = .returned (.bool true) ∧ Below w.heap.size w w' := by
  have HSM := hide (Small_run s v es w _ h hs)
  have HE := hide h
  obtain ⟨A, c, rfl, _⟩ := h
  obtain ⟨n, hn⟩ : ∃ n, n = es.length := ⟨_, rfl⟩
  rw [← hn] at HSM HE ⊢
  obtain ⟨b, hb⟩ : ∃ b, b = smallP s es := ⟨_, rfl⟩
  rw [← hb] at HSM
  have HBB := Lib.hid hb
  have HN := Lib.hid hn
  clear hs hb hn
  go_enter Try.func6, Try.ntmps6
  cases b with
  | false =>
    go_wp2_with fail
    refine (unhide HSM).mono ?_; rintro e w' ⟨rfl, rfl⟩
    go_wp2_with fail
    refine (example_run w).mono ?_; rintro e w' ⟨rfl, hB⟩
    go_wp2_with fail
    go_ret
    exact ⟨rfl, hB⟩
  | true =>
    obtain ⟨h1, h2, h3, hF⟩ := small_fit HBB.out.symm
    have HF := hide hF
    have hs : s.size ≤ 1000000000000 := by omega
    have HA := hide (Apply_run s _ es w HE.out hF hs)
    obtain ⟨⟨t, k⟩, hr⟩ : ∃ r, r = applyP s es := ⟨_, rfl⟩
    rw [← hr] at HA
    have HRR := Lib.hid hr
    have hs4 : s.size ≤ 400 := h1
    clear h1 h2 h3 hF hr
    by_cases hk : k = 0
    · subst hk
      have hgood := applyP_good (s := s) (es := es) (by rw [← HRR.out])
      obtain ⟨hch, ht0, hsz⟩ := hgood
      rw [← HRR.out] at ht0
      have ht : t = joinP s ByteArray.empty 0 es := ht0
      have hinv : invertP s es = (invL s 0 es, 0) := by rw [invertP, ← HRR.out]; simp
      obtain ⟨hb1, hb2⟩ := back_law s es hch (by omega)
      rw [← ht] at hb1
      have hts : t.size ≤ 65536 := by
        have := joinP_size s es ByteArray.empty 0 hch
        have h0 : (ByteArray.empty.size : Int) = 0 := rfl
        rw [h0, ← ht, show (0 : Int) + ((s.size : Int) - ((0 : Nat) : Int)) = s.size by omega] at this
        omega
      have hfit2 : Fit (invL s 0 es) := ⟨by rw [hb2, ← HN.out]; have := HF.out.1; rw [← HN.out] at this; exact this, fun e he => by have := inv_tx s es 0 e he; omega⟩
      have HINV := Lib.hid hinv; have HB1' := Lib.hid hb1; have HB2' := Lib.hid hb2; have HFIT2 := Lib.hid hfit2
      clear hch ht ht0 hsz hinv hb1 hb2 hfit2
      go_wp2_with fail
      refine (unhide HSM).mono ?_; rintro e w' ⟨rfl, rfl⟩
      go_wp2_with fail
      refine (unhide HA).mono ?_; rintro e w1 ⟨rfl, hB1⟩
      have HE1 := hide ((HE.out.same (Same.of_below hB1)).more hB1.size)
      have HB1 := hide hB1
      have HI := hide (Invert_run s _ es w1 HE1.out HF.out hs)
      rw [HINV.out] at HI
      clear hB1 HA
      go_wp2_with fail
      refine (unhide HI).mono ?_; rintro e w2 ⟨u, rfl, hB2, hM⟩
      have HB2 := hide (HB1.out.trans (hB2.mono HB1.out.size))
      have HA2 := hide (Apply_run t u _ w2 hM HFIT2.out (by omega))
      have HM := hide hM
      have hM' : Eds w2 w2.heap.size u (invL s 0 es) := hM
      obtain ⟨A2, c2, rfl, _⟩ := hM'
      have hA2' := HA2.out
      rw [HB2'.out, ← HN.out, HB1'.out] at hA2'
      have HA2 := hide hA2'
      rw [HB2'.out, ← HN.out]
      have hnn : ((n : Int) == n) = true := by simp
      have hss : (s.toList == s.toList) = true := by simp
      clear hB2 HI HE1 HB1 hM hA2'
      go_wp2_with fail
      refine (unhide HA2).mono ?_; rintro e w3 ⟨rfl, hB3⟩
      have HB3 := hide (HB2.out.trans (hB3.mono HB2.out.size))
      have HX := hide (example_run w3)
      clear hB3 HA2 HB2 HM
      go_wp2_with fail
      refine (unhide HX).mono ?_; rintro e w4 ⟨rfl, hB4⟩
      have HB4 := hide (HB3.out.trans (hB4.mono HB3.out.size))
      clear hB4
      go_wp2_with fail
      go_ret
      exact ⟨rfl, HB4.out⟩
    · have hbad := applyP_bad (s := s) (es := es) (by rw [← HRR.out]; exact hk)
      rw [← HRR.out] at hbad
      have hbad : t = ByteArray.empty := hbad
      subst hbad
      have hinv : invertP s es = ([], k) := by rw [invertP, ← HRR.out]; simp [hk]
      have HINV := Lib.hid hinv
      have hk' : (k == 0) = false := by simpa using hk
      have hkk : (k == k) = true := by simp
      clear hinv
      go_wp2_with fail
      refine (unhide HSM).mono ?_; rintro e w' ⟨rfl, rfl⟩
      go_wp2_with fail
      refine (unhide HA).mono ?_; rintro e w1 ⟨rfl, hB1⟩
      have HE1 := hide ((HE.out.same (Same.of_below hB1)).more hB1.size)
      have HB1 := hide hB1
      have HI := hide (Invert_run s _ es w1 HE1.out HF.out hs)
      rw [HINV.out] at HI
      clear hB1 HA
      go_wp2_with fail
      refine (unhide HI).mono ?_; rintro e w2 ⟨u, rfl, hB2, hM⟩
      have HB2 := hide (HB1.out.trans (hB2.mono HB1.out.size))
      obtain ⟨A2, c2, rfl, _⟩ := hM
      have HX := hide (example_run w2)
      have hem : (ByteArray.empty.toList == []) = true := by rw [Lib.toList_data]; rfl
      clear hB2 HI HE1 HB1
      go_wp2_with fail
      refine (unhide HX).mono ?_; rintro e w4 ⟨rfl, hB4⟩
      have HB4 := hide (HB2.out.trans (hB4.mono HB2.out.size))
      clear hB4
      go_wp2_with fail
      go_ret
      exact ⟨rfl, HB4.out⟩
end Go.Proofs.Ytbfgnafpianliaa
