/- Begins of the reference: the walk. -/
import Derived.Test.YtbfgnafpianliaaDfP
namespace Go.Proofs.Ytbfgnafpianliaa
open Go.RowKit

theorem Begins_run (s : ByteArray) (i : Int) (w : World) (hs : s.size ≤ 1000000000) (h : beginsP s i) : Calls Try.prog 25 #[.string s, .int .i64 i] w fun e w' => e = .returned (.bool true) ∧ w' = w := by
  by_cases h0 : i = 0
  · subst h0
    clear h
    go_enter Try.func25, Try.ntmps25
    go_wp2_with fail
    go_ret
    exact ⟨rfl, rfl⟩
  · have g0 : (i == 0) = false := by simpa using h0
    by_cases h1 : i = s.size
    · have g1 : (i == (s.size : Int)) = true := by simpa using h1
      clear h h0 h1
      go_enter Try.func25, Try.ntmps25
      go_wp2_with fail
      go_ret
      exact ⟨rfl, rfl⟩
    · have g1 : (i == (s.size : Int)) = false := by simpa using h1
      obtain ⟨h2, h3, h4⟩ : 0 < i ∧ i < s.size ∧ s.get! (i - 1).toNat = 10 := by
        rcases h with h | h | h
        · exact absurd h h0
        · exact absurd h h1
        · exact h
      obtain ⟨k, rfl⟩ : ∃ k : Nat, i = (k : Int) + 1 := ⟨(i - 1).toNat, by omega⟩
      have hk : k < s.size := by omega
      have h5 : s[k] = 10 := by rw [← get_eq s k hk, ← h4]; congr 1; omega
      have g2 : decide ((k : Int) + 1 > 0) = true := by simp
      have g3 : decide ((k : Int) + 1 < s.size) = true := by simpa using h3
      have g4 : ((s[k].toNat : Int) == 10) = true := by rw [h5]; rfl
      clear h h0 h1 h2 h3 h4 h5
      go_enter Try.func25, Try.ntmps25
      go_wp2_with fail
      go_ret
      exact ⟨rfl, rfl⟩
end Go.Proofs.Ytbfgnafpianliaa
