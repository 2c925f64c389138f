/- slices.Reverse, reversed. -/
import Derived.Test.YtbfgnafpianliaaCl
namespace Go.Proofs.Ytbfgnafpianliaa
open Go.RowKit

theorem Reverse_run (v : Value) (xs : List ByteArray) (w : World) (base : Nat) (h : w.ownsRow base 9 1 v xs.length (xs.map .string)) (hn : xs.length ≤ 1000000000) :
    Calls Try.prog 35 #[v] w fun e w' => e = .returned (.tuple #[]) ∧ w'.ownsRow base 9 1 v xs.length (xs.reverse.map .string) ∧ w.grownBy w' v.ownBlock := by
  have hO := hide h
  rcases h.2 with ⟨rfl, h0⟩ | ⟨g, cap, cur, rfl, _, _, hcap, hm, _⟩
  · have hx : xs = [] := List.eq_nil_of_length_eq_zero h0
    subst hx
    clear h
    have e1 : IntKind.i64.wrap ((0 : Int) - 1) = -1 := rfl
    go_enter Try.func35, Try.ntmps35
    go_wp2
    go_loop [2, 3] (fun i j => i = .int .i64 0 ∧ j = .int .i64 (-1)) (fun _ _ => 0)
    case atStart => exact ⟨rfl, rfl⟩
    case round =>
      obtain ⟨rfl, rfl⟩ := hrel
      go_wp2
      go_end0
      exact ⟨rfl, by simpa using hO.out, ⟨rfl, rfl, rfl, Nat.le_refl _, fun _ _ _ => rfl⟩⟩
  · have hm1 := maxLen_le hm
    clear h
    obtain ⟨n, hnn⟩ : ∃ n, n = xs.length := ⟨_, rfl⟩
    rw [← hnn] at hcap hn hO ⊢
    have HN := Lib.hid hnn
    clear hnn hm
    have e1 : IntKind.i64.wrap ((n : Int) - 1) = (n : Int) - 1 := IntWalk.i64_in _ (by omega)
    go_enter Try.func35, Try.ntmps35
    go_wp2
    go_loopw [2, 3] (fun i j wr => ∃ t : Nat, i = .int .i64 t ∧ j = .int .i64 ((n : Int) - 1 - t) ∧ 2 * t ≤ n + 1 ∧ Hid (wr.ownsRow base 9 1 (.slice (some ⟨g, 0, none⟩) n cap) n ((swp xs t).map .string) ∧ w.grownBy wr (some g))) (fun i j _ => n - (intOf i).toNat)
    case atStart => exact ⟨0, rfl, by simp, by omega, hide ⟨by rw [swp_zero]; exact hO.out, ⟨rfl, rfl, rfl, Nat.le_refl _, fun _ _ _ => rfl⟩⟩⟩
    case round =>
      obtain ⟨t, rfl, rfl, ht, hI⟩ := hrel
      obtain ⟨hR, hG⟩ := hI.out
      by_cases hlt : 2 * t + 1 < n
      · have hl : decide ((t : Int) < (n : Int) - 1 - t) = true := by simp; omega
        have hj : ((n : Int) - 1 - t) = ((n - 1 - t : Nat) : Int) := by omega
        obtain ⟨j, hjj⟩ : ∃ j, j = n - 1 - t := ⟨_, rfl⟩
        rw [← hjj] at hj
        rw [hj] at hl ⊢
        have hn := HN.out
        have ct : wr.cell? ⟨g, t, none⟩ = some (.string (xs.getD t ByteArray.empty)) := by
          rw [hR.cellAt t (by omega), List.getElem?_map, swp_get xs t t (by omega), if_neg (by omega)]; rfl
        have cj : wr.cell? ⟨g, j, none⟩ = some (.string (xs.getD j ByteArray.empty)) := by
          rw [hR.cellAt j (by omega), List.getElem?_map, swp_get xs t j (by omega), if_neg (by omega)]; rfl
        have ft : wr.frozen? ⟨g, t, none⟩ = false := hR.frozenAt t
        have fj : wr.frozen? ⟨g, j, none⟩ = false := hR.frozenAt j
        obtain ⟨X, hX⟩ : ∃ X, X = xs.getD t ByteArray.empty := ⟨_, rfl⟩
        obtain ⟨Y, hY⟩ : ∃ X, X = xs.getD j ByteArray.empty := ⟨_, rfl⟩
        rw [← hX] at ct
        rw [← hY] at cj
        have htj : t < j := by omega
        have hjn : j < n := by omega
        have htn : t < n := by omega
        have e2 : IntKind.i64.wrap ((j : Int) - 1) = (j : Int) - 1 := IntWalk.i64_in _ (by omega)
        have hsm := hR.stored t (.string Y)
        have hs2 := hsm.1.stored j (.string X)
        have HF := Lib.hid (And.intro hs2.1 (And.intro (hG.trans hsm.2) hs2.2))
        have HX := Lib.hid hX; have HY := Lib.hid hY; have HJ := Lib.hid hjj
        clear hI hR hG hX hY hjj hj hn hsm hs2
        go_wp2
        go_region
        all_goals go_wp2_with fail
        go_roundw
        case rel =>
          refine ⟨t + 1, by go_num, by rw [show ((j : Int) - 1) = (n : Int) - 1 - ((t + 1 : Nat) : Int) by have := HJ.out; omega], by omega, hide ?_⟩
          obtain ⟨h1, h2⟩ := HF.out
          have hn := HN.out
          have he := swp_step xs t (by omega)
          rw [← hn, ← HJ.out, ← HX.out, ← HY.out] at he
          have h3 : (((swp xs t).map Value.string).set t (.string Y)).set j (.string X) = (swp xs (t + 1)).map .string := by
            rw [← he, List.map_set, List.map_set]
          rw [h3] at h1
          exact ⟨h1, h2.1.trans ⟨h2.2.os, h2.2.tape, h2.2.output, h2.2.size, h2.2.block⟩⟩
        case measure => simp [intOf]; omega
      · have hl : decide ((t : Int) < (n : Int) - 1 - t) = false := by simp; omega
        clear hI
        have HR := hide hR; have HG := hide hG; clear hR hG
        go_wp2
        go_end0
        have hs := HR.out
        rw [swp_all xs t (by have := HN.out; omega)] at hs
        exact ⟨rfl, hs, HG.out⟩

theorem reversed_run (v : Value) (xs : List ByteArray) (w : World) (h : Strs w w.heap.size v xs) (hn : xs.length ≤ 1000000000) :
    Calls Try.prog 33 #[v] w fun e w' => ∃ u, e = .returned u ∧ Below w.heap.size w w' ∧ Strs w' w'.heap.size u xs.reverse := by
  have HC := hide (Clone_run v xs w h hn)
  have HN := hide hn
  clear h hn
  go_enter Try.func33, Try.ntmps33
  go_wp2_with (go_at_call 34; refine (unhide HC).mono ?_; rintro e w1 ⟨u, rfl, hB, hO⟩; have HR := hide (Reverse_run u xs w1 _ hO HN.out); have HB := hide hB; have HO := hide hO; clear hB hO)
  go_wp2_with (go_at_call 35; refine (unhide HR).mono ?_; rintro e w2 ⟨rfl, hO2, hG2⟩)
  go_ret
  have hO := HO.out
  refine ⟨_, rfl, Below.grown HB.out hG2 HB.out.size (fun k e => (hO.lt k e).1), ?_⟩
  exact Sl.of_own hO2
end Go.Proofs.Ytbfgnafpianliaa
