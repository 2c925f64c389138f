/- The law on Lines: the walk. -/
import Derived.Test.YtbfgnafpianliaaLawA
namespace Go.Proofs.Ytbfgnafpianliaa
open Go.RowKit

set_option maxHeartbeats 1000000 in
theorem LinesLaw_run (s : ByteArray) (w : World) :
    Calls Try.prog 8 #[.string s] w fun e w' => e = .returned (.bool true) ∧ Below w.heap.size w w' := by
  by_cases hg : 400 < s.size
  · have g : decide ((s.size : Int) > 400) = true := by simp; omega
    go_enter Try.func8, Try.ntmps8
    go_wp2_with fail
    refine (example_run w).mono ?_; rintro e w' ⟨rfl, hB⟩
    go_wp2_with fail
    go_ret
    exact ⟨rfl, hB⟩
  · have g : decide ((s.size : Int) > 400) = false := by simp; omega
    have hs2 : s.size ≤ 1000000000 := by omega
    have HL := hide (Lines_run s w hs2)

    go_enter Try.func8, Try.ntmps8
    go_wp2_with fail
    refine (unhide HL).mono ?_; rintro e w1 ⟨u1, rfl, hB1, hS1⟩
    have HB1 := hide hB1; have HS1 := hide hS1
    have HL2 := hide (refLines_run s w1 hs2)
    clear hB1 hS1 HL
    go_wp2_with fail
    refine (unhide HL2).mono ?_; rintro e w2 ⟨u2, rfl, hB2, hS2⟩
    have HS1 := hide ((HS1.out.same (Same.of_below hB2)).more hB2.size)
    have HB2 := hide (HB1.out.trans (hB2.mono HB1.out.size))
    obtain ⟨A, c, rfl, hc1, hc2, hA⟩ := HS1.out.parts
    obtain ⟨A', c', rfl, hc1', hc2', hA'⟩ := hS2.parts
    have hm := maxLen_le hc2
    have hm' := maxLen_le hc2'
    have HA := hide hA; have HA' := hide hA'
    obtain ⟨xs, hxs⟩ : ∃ xs, xs = linesP s := ⟨_, rfl⟩
    rw [← hxs] at HA HA' hc1 hc1' ⊢
    obtain ⟨n, hn⟩ : ∃ n, n = xs.length := ⟨_, rfl⟩
    rw [← hn] at hc1 hc1' ⊢
    have HN := Lib.hid hn
    have h0 : ((n : Int) == n) = true := by simp
    clear hB2 hS2 HL2 HB1 HS1 hA hA' hxs hn hc2 hc2'
    go_wp2_with fail
    go_loopw [5] (fun i wr => ∃ k m : Nat, i = .int .i64 k ∧ k ≤ n ∧ wr = w2.drewN m) (fun i _ => n - (intOf i).toNat)
    case atStart => exact ⟨0, 0, rfl, by omega, by rfl⟩
    case round =>
      obtain ⟨k, m, rfl, hk, rfl⟩ := hrel
      by_cases hlt : k < n
      · have hlt' : k < xs.length := by rw [← HN.out]; exact hlt
        obtain ⟨ad, rfl, hb, hc⟩ := HA.out k _ (List.getElem?_eq_getElem hlt')
        obtain ⟨ad', rfl, hb', hc'⟩ := HA'.out k _ (List.getElem?_eq_getElem hlt')
        have g1 : (xs[k].toList == xs[k].toList) = true := by simp
        go_wp2_with fail
        go_quiet (fail)
        go_wp2_with fail
        go_roundw
        case rel => exact ⟨k + 1, _, by go_num, by omega, rfl⟩
        case measure => simp [intOf]; omega
      · have HX := hide (example_run (w2.drewN m))
        go_wp2_with fail
        refine (unhide HX).mono ?_; rintro e w3 ⟨rfl, hB3⟩
        have HB3 := hide ((below_drewN HB2.out m).trans (hB3.mono HB2.out.size))
        clear hB3
        go_wp2_with fail
        go_ret
        exact ⟨rfl, HB3.out⟩
end Go.Proofs.Ytbfgnafpianliaa
