/- Same. -/
import Derived.Test.YtbfgnafpianliaaIr
import Derived.Laws.StructEq
namespace Go.Proofs.Ytbfgnafpianliaa
open Go.RowKit

/-- Whether two lists of edits are equal. -/
def sameL : List Ed → List Ed → Bool
  | [], [] => true
  | a :: l, b :: m => if a.fr = b.fr ∧ a.to = b.to ∧ a.tx = b.tx then sameL l m else false
  | _, _ => false
theorem sameL_refl : ∀ l : List Ed, sameL l l = true
  | [] => rfl
  | a :: l => by rw [sameL, if_pos ⟨rfl, rfl, rfl⟩]; exact sameL_refl l
theorem sameL_len : ∀ {a b : List Ed}, a.length ≠ b.length → sameL a b = false
  | [], [], h => absurd rfl h
  | a :: l, b :: m, h => by
    rw [sameL]; split
    · exact sameL_len (by simp at h; exact h)
    · rfl
  | [], _ :: _, _ => rfl
  | _ :: _, [], _ => rfl

theorem bytes_ne {a b : ByteArray} (h : a ≠ b) : (a.toList == b.toList) = false := by
  cases hb : (a.toList == b.toList) with
  | false => rfl
  | true =>
    have := eq_of_beq hb
    rw [Lib.toList_data, Lib.toList_data] at this
    exact absurd (ByteArray.ext (Array.toList_inj.1 this)) h
theorem bytes_eq {a b : ByteArray} (h : a = b) : (a.toList == b.toList) = true := by rw [h]; simp

theorem Same_run (u v : Value) (xs ys : List Ed) (w : World) (B : Nat) (hu : Eds w B u xs) (hv : Eds w B v ys) :
    Calls Try.prog 21 #[u, v] w (Quiet (.bool (sameL xs ys)) w) := by
  obtain ⟨A, c, rfl, hc1, hc2, hels⟩ := hu
  have hm := maxLen_le hc2
  obtain ⟨A', c', rfl, hc1', hc2', hels'⟩ := hv
  have hm' := maxLen_le hc2'
  have HE := Lib.hid hels; have HE' := Lib.hid hels'; clear hels hc2 hels' hc2'
  obtain ⟨n, hn⟩ : ∃ n, n = xs.length := ⟨_, rfl⟩
  obtain ⟨n', hn'⟩ : ∃ n, n = ys.length := ⟨_, rfl⟩
  rw [← hn] at hc1 ⊢
  rw [← hn'] at hc1' ⊢
  have HN := Lib.hid hn
  have HN' := Lib.hid hn'
  obtain ⟨r, hr⟩ : ∃ r, r = sameL xs ys := ⟨_, rfl⟩
  rw [← hr]
  have HR := Lib.hid hr
  clear hn hn' hr
  by_cases hnn : n = n'
  · subst hnn
    have h0 : ((n : Int) == n) = true := by simp
    go_enter Try.func21, Try.ntmps21
    go_wp2
    go_loopw [5] (fun i wr => ∃ k : Nat, i = .int .i64 k ∧ k ≤ n ∧ Hid (r = sameL (xs.drop k) (ys.drop k)) ∧ ∃ m, wr = w.drewN m) (fun i _ => n - (intOf i).toNat)
    case atStart => exact ⟨0, rfl, by omega, HR, 0, by rfl⟩
    case round =>
      obtain ⟨k, rfl, hk2, hI, m, rfl⟩ := hrel
      by_cases hlt : k < n
      · have hn := HN.out
        have hn' := HN'.out
        have hlt' : k < xs.length := by omega
        have hlt'' : k < ys.length := by omega
        obtain ⟨ad, rfl, hb, hf, ht, hx⟩ := HE.out.get Same.refl hlt'
        obtain ⟨ad', rfl, hb', hf', ht', hx'⟩ := HE'.out.get Same.refl hlt''
        have hq := hI.out
        rw [drop_at hlt', drop_at hlt'', sameL] at hq
        clear hI
        by_cases hg : xs[k].fr = ys[k].fr
        · have g1 : (xs[k].fr == ys[k].fr) = true := by simpa using hg
          by_cases hg2 : xs[k].to = ys[k].to
          · have g2 : (xs[k].to == ys[k].to) = true := by simpa using hg2
            by_cases hg3 : xs[k].tx = ys[k].tx
            · have g3 : (xs[k].tx.toList == ys[k].tx.toList) = true := by rw [hg3]; simp
              rw [if_pos ⟨hg, hg2, hg3⟩] at hq
              have HQ := Lib.hid hq; clear hq hn hn' hg hg2 hg3
              go_wp2
              go_quiet (fail)
              go_wp2
              go_roundw
              case rel => exact ⟨k + 1, by go_num, by omega, HQ.out, by first | exact drew2 _ _ _ | exact ⟨_, rfl⟩⟩
              case measure => simp [intOf]; omega
            · have g3 : (xs[k].tx.toList == ys[k].tx.toList) = false := bytes_ne hg3
              rw [if_neg (by rintro ⟨_, _, h⟩; exact hg3 h)] at hq
              have HQ := Lib.hid hq; clear hq hn hn' hg hg2 hg3
              go_wp2
              go_quiet (fail)
              go_wp2
              go_ret
              exact ⟨ret_bool HQ.out.symm, by first | exact drew2 _ _ _ | exact ⟨_, rfl⟩⟩
          · have g2 : (xs[k].to == ys[k].to) = false := by simpa using hg2
            rw [if_neg (by rintro ⟨_, h, _⟩; exact hg2 h)] at hq
            have HQ := Lib.hid hq; clear hq hn hn' hg hg2
            go_wp2
            go_quiet (fail)
            go_wp2
            go_ret
            exact ⟨ret_bool HQ.out.symm, by first | exact drew2 _ _ _ | exact ⟨_, rfl⟩⟩
        · have g1 : (xs[k].fr == ys[k].fr) = false := by simpa using hg
          rw [if_neg (by rintro ⟨h, _, _⟩; exact hg h)] at hq
          have HQ := Lib.hid hq; clear hq hn hn' hg
          go_wp2
          go_quiet (fail)
          go_wp2
          go_ret
          exact ⟨ret_bool HQ.out.symm, by first | exact drew2 _ _ _ | exact ⟨_, rfl⟩⟩
      · have hq := hI.out
        rw [List.drop_eq_nil_of_le (by have := HN.out; omega), List.drop_eq_nil_of_le (by have := HN'.out; omega), sameL] at hq
        have HQ := Lib.hid hq; clear hq hI
        go_wp2
        go_ret
        exact ⟨ret_bool HQ.out.symm, _, rfl⟩
  · have h0 : ((n : Int) == n') = false := by simp; omega
    have hq : r = false := by rw [HR.out]; exact sameL_len (by rw [← HN.out, ← HN'.out]; exact hnn)
    have HQ := Lib.hid hq; clear hq
    go_enter Try.func21, Try.ntmps21
    go_wp2
    go_ret
    exact ⟨ret_bool HQ.out.symm, 0, rfl⟩
end Go.Proofs.Ytbfgnafpianliaa
