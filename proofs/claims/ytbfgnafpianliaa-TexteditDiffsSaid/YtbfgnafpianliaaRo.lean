/- The functions that only read edits: Small, inside, ordered, possible. -/
import Derived.Test.YtbfgnafpianliaaEd
namespace Go.Proofs.Ytbfgnafpianliaa
open Go.RowKit

def smallL : List Ed → Bool
  | [] => true
  | e :: l => if 60 < e.tx.size then false else smallL l
def smallP (s : ByteArray) (es : List Ed) : Bool := smallL es && decide (s.size ≤ 400) && decide (es.length ≤ 20)

theorem Small_run (s : ByteArray) (v : Value) (es : List Ed) (w : World) (B : Nat) (h : Eds w B v es) (hs : s.size ≤ maxLen) :
    Calls Try.prog 11 #[.string s, v] w fun e w' => e = .returned (.bool (smallP s es)) ∧ w = w' := by
  obtain ⟨A, c, rfl, hc1, hc2, hels⟩ := h
  have hm := maxLen_le hc2
  have hm' := maxLen_le hs
  have HE := Lib.hid hels; clear hels hc2 hs
  obtain ⟨n, hn⟩ : ∃ n, n = es.length := ⟨_, rfl⟩
  obtain ⟨S, hS⟩ : ∃ n, n = s.size := ⟨_, rfl⟩
  rw [← hn] at hc1 ⊢
  rw [← hS] at hm'
  have HN := Lib.hid hn; have HS := Lib.hid hS
  go_enter Try.func11, Try.ntmps11
  go_wp2
  go_loop [5] (fun i => ∃ k : Nat, k ≤ n ∧ i = .int .i64 k ∧ Hid (smallL es = smallL (es.drop k))) (fun i => n - (intOf i).toNat)
  case atStart => exact ⟨0, Nat.zero_le _, rfl, rfl⟩
  case round =>
    obtain ⟨k, hk, rfl, hI⟩ := hrel
    by_cases hlt : k < n
    · have hlt' : k < es.length := by omega
      obtain ⟨ad, rfl, hb, hf, ht, hx⟩ := HE.out.get Same.refl hlt'
      by_cases hg : 60 < es[k].tx.size
      · have hg' : decide ((es[k].tx.size : Int) > 60) = true := by simp; omega
        have hq : smallL es = false := by rw [hI.out, drop_at hlt', smallL, if_pos hg]
        have HQ := Lib.hid hq; clear hq hn hS
        go_wp2
        go_ret
        exact ⟨ret_bool (by rw [smallP, HQ.out]; rfl), rfl⟩
      · have hg' : decide ((es[k].tx.size : Int) > 60) = false := by simp; omega
        have hq : smallL es = smallL (es.drop (k+1)) := by rw [hI.out, drop_at hlt', smallL, if_neg hg]
        have HQ := Lib.hid hq; clear hq hn hS
        go_wp2
        go_round
        case rel => exact ⟨k + 1, by omega, by go_num, HQ.out⟩
        case measure => simp [intOf]; omega
    · have hq : smallL es = true := by rw [hI.out, List.drop_eq_nil_of_le (by omega), smallL]
      have HQ := Lib.hid hq; clear hq hn hS
      by_cases h1 : s.size ≤ 400
      · have h1' : decide ((s.size : Int) ≤ 400) = true := by simp; omega
        go_wp2
        go_ret
        exact ⟨ret_bool (by rw [smallP, HQ.out, ← HN.out]; simp [h1]; try omega), rfl⟩
      · have h1' : decide ((s.size : Int) ≤ 400) = false := by simp; omega
        go_wp2
        go_ret
        exact ⟨ret_bool (by rw [smallP, HQ.out, ← HN.out]; simp [h1]; try omega), rfl⟩

theorem ordered_run (v : Value) (es : List Ed) (w : World) (B : Nat) (h : Eds w B v es) :
    Calls Try.prog 28 #[v] w (Quiet (.bool (orderedP es)) w) := by
  obtain ⟨A, c, rfl, hc1, hc2, hels⟩ := h
  have hm := maxLen_le hc2
  have HE := Lib.hid hels; clear hels hc2
  obtain ⟨n, hn⟩ : ∃ n, n = es.length := ⟨_, rfl⟩
  rw [← hn] at hc1 ⊢
  have HN := Lib.hid hn
  clear hn
  go_enter Try.func28, Try.ntmps28
  go_wp2
  go_loopw [3] (fun i wr => ∃ k : Nat, 1 ≤ k ∧ i = .int .i64 k ∧ (k ≤ n ∨ k = 1) ∧ Hid (∀ (h : k - 1 < es.length), orderedP es = orderedQ es[k-1].to (es.drop k)) ∧ ∃ m, wr = w.drewN m) (fun i _ => n + 1 - (intOf i).toNat)
  case atStart =>
    refine ⟨1, Nat.le_refl _, rfl, by omega, fun h => ?_, 0, by rfl⟩
    cases es with
    | nil => simp at h
    | cons e l => rfl
  case round =>
    obtain ⟨k, hk1, rfl, hk2, hI, m, rfl⟩ := hrel
    by_cases hlt : k < n
    · have hn := HN.out
      have hlt' : k < es.length := by omega
      have hlt2 : k - 1 < es.length := by omega
      obtain ⟨ad, rfl, hb, hf, ht, hx⟩ := HE.out.get Same.refl hlt'
      obtain ⟨ad', ha', hb', hf', ht', hx'⟩ := HE.out.get Same.refl hlt2
      injection ha' with ha'
      subst ha'
      have hw : IntKind.i64.wrap ((k:Int) - 1) = (k:Int) - 1 := IntWalk.i64_in _ (by omega)
      have hk1' : (1:Int) ≤ k := by omega
      have hq := hI.out hlt2
      rw [drop_at hlt', orderedQ] at hq
      clear hI
      by_cases hg : es[k].fr < es[k-1].to
      · have hg' : decide (es[k].fr < es[k-1].to) = true := by simpa using hg
        rw [if_pos hg] at hq
        have HQ := Lib.hid hq; clear hq hn
        go_wp2
        go_quiet (fail)
        go_wp2
        go_ret
        exact ⟨ret_bool HQ.out.symm, by first | exact drew2 _ _ _ | exact ⟨_, rfl⟩⟩
      · have hg' : decide (es[k].fr < es[k-1].to) = false := by simpa using hg
        rw [if_neg hg] at hq
        have HQ := Lib.hid hq; clear hq hn
        go_wp2
        go_quiet (fail)
        go_wp2
        go_roundw
        case rel => exact ⟨k + 1, by omega, by go_num, by omega, fun _ => HQ.out, by first | exact drew2 _ _ _ | exact ⟨_, rfl⟩⟩
        case measure => simp [intOf]; omega
    · have hq : orderedP es = true := by
        cases es with
        | nil => rfl
        | cons e l =>
          have hN := HN.out
          simp only [List.length_cons] at hN
          rw [hI.out (by simp only [List.length_cons]; omega), List.drop_eq_nil_of_le (by simp only [List.length_cons]; omega), orderedQ]
      have HQ := Lib.hid hq; clear hq hI
      go_wp2
      go_ret
      exact ⟨ret_bool HQ.out.symm, by first | exact drew2 _ _ _ | exact ⟨_, rfl⟩⟩

theorem inside_run (N : Int) (v : Value) (es : List Ed) (w : World) (B : Nat) (h : Eds w B v es) :
    Calls Try.prog 27 #[.int .i64 N, v] w (Quiet (.bool (insideP N es)) w) := by
  obtain ⟨A, c, rfl, hc1, hc2, hels⟩ := h
  have hm := maxLen_le hc2
  have HE := Lib.hid hels; clear hels hc2
  obtain ⟨n, hn⟩ : ∃ n, n = es.length := ⟨_, rfl⟩
  rw [← hn] at hc1 ⊢
  have HN := Lib.hid hn
  clear hn
  go_enter Try.func27, Try.ntmps27
  go_wp2
  go_loopw [5] (fun i wr => ∃ k : Nat, i = .int .i64 k ∧ k ≤ n ∧ Hid (insideP N es = insideP N (es.drop k)) ∧ ∃ m, wr = w.drewN m) (fun i _ => n - (intOf i).toNat)
  case atStart => exact ⟨0, rfl, by omega, by rfl, 0, by rfl⟩
  case round =>
    obtain ⟨k, rfl, hk2, hI, m, rfl⟩ := hrel
    by_cases hlt : k < n
    · have hn := HN.out
      have hlt' : k < es.length := by omega
      obtain ⟨ad, rfl, hb, hf, ht, hx⟩ := HE.out.get Same.refl hlt'
      have hq := hI.out
      rw [drop_at hlt', insideP] at hq
      clear hI
      by_cases hg : es[k].fr < 0
      · have hg' : decide (es[k].fr < 0) = true := by simpa using hg
        rw [if_pos (Or.inl hg)] at hq
        have HQ := Lib.hid hq; clear hq hn
        go_wp2
        go_quiet (fail)
        go_wp2
        go_ret
        exact ⟨ret_bool HQ.out.symm, by first | exact drew2 _ _ _ | exact ⟨_, rfl⟩⟩
      · have hg' : decide (es[k].fr < 0) = false := by simpa using hg
        by_cases hg2 : es[k].to < es[k].fr
        · have hg2' : decide (es[k].to < es[k].fr) = true := by simpa using hg2
          rw [if_pos (Or.inr (Or.inl hg2))] at hq
          have HQ := Lib.hid hq; clear hq hn
          go_wp2
          go_quiet (fail)
          go_wp2
          go_ret
          exact ⟨ret_bool HQ.out.symm, by first | exact drew2 _ _ _ | exact ⟨_, rfl⟩⟩
        · have hg2' : decide (es[k].to < es[k].fr) = false := by simpa using hg2
          by_cases hg3 : N < es[k].to
          · have hg3' : decide (N < es[k].to) = true := by simpa using hg3
            rw [if_pos (Or.inr (Or.inr hg3))] at hq
            have HQ := Lib.hid hq; clear hq hn
            go_wp2
            go_quiet (fail)
            go_wp2
            go_ret
            exact ⟨ret_bool HQ.out.symm, by first | exact drew2 _ _ _ | exact ⟨_, rfl⟩⟩
          · have hg3' : decide (N < es[k].to) = false := by simpa using hg3
            rw [if_neg (by omega)] at hq
            have HQ := Lib.hid hq; clear hq hn
            go_wp2
            go_quiet (fail)
            go_wp2
            go_roundw
            case rel => exact ⟨k + 1, by go_num, by omega, HQ.out, by first | exact drew2 _ _ _ | exact ⟨_, rfl⟩⟩
            case measure => simp [intOf]; omega
    · have hq : insideP N es = true := by
        rw [hI.out, List.drop_eq_nil_of_le (by have := HN.out; omega), insideP]
      have HQ := Lib.hid hq; clear hq hI
      go_wp2
      go_ret
      exact ⟨ret_bool HQ.out.symm, by first | exact drew2 _ _ _ | exact ⟨_, rfl⟩⟩

theorem possible_run (v : Value) (es : List Ed) (w : World) (h : Eds w w.heap.size v es) :
    Calls Try.prog 29 #[v] w fun e w' => e = .returned (.bool (possibleP 0 es)) ∧ Below w.heap.size w w' := by
  obtain ⟨A, c, rfl, hc1, hc2, hels⟩ := h
  have hm := maxLen_le hc2
  have HE := Lib.hid hels; clear hels hc2
  obtain ⟨n, hn⟩ : ∃ n, n = es.length := ⟨_, rfl⟩
  rw [← hn] at hc1 ⊢
  have HN := Lib.hid hn
  clear hn
  go_enter Try.func29, Try.ntmps29
  go_wp2
  go_loopw [3, 5, 8] (fun l e i wr => ∃ (k : Nat) (L : Int), i = .int .i64 k ∧ l = .int .i64 L ∧ k ≤ n ∧ Hid (possibleP 0 es = possibleP L (es.drop k)) ∧ Hid (Below w.heap.size w wr)) (fun _ _ i _ => n - (intOf i).toNat)
  case atStart => exact ⟨0, 0, rfl, rfl, by omega, by rfl, hide (Below.refl _ _)⟩
  case round =>
    obtain ⟨k, L, rfl, rfl, hk2, hI, hB⟩ := hrel
    by_cases hlt : k < n
    · have hn := HN.out
      have hlt' : k < es.length := by omega
      obtain ⟨ad, rfl, hb, hf, ht, hx⟩ := HE.out.get (Same.of_below hB.out) hlt'
      have hq := hI.out
      rw [drop_at hlt', possibleP] at hq
      clear hI
      by_cases hg : es[k].fr < L
      · have hg' : decide (es[k].fr < L) = true := by simpa using hg
        rw [if_pos (Or.inl hg)] at hq
        have HQ := Lib.hid hq; clear hq hn
        go_wp2
        go_ret
        exact ⟨ret_bool HQ.out.symm, below_al hB.out _⟩
      · have hg' : decide (es[k].fr < L) = false := by simpa using hg
        by_cases hg2 : es[k].to < es[k].fr
        · have hg2' : decide (es[k].to < es[k].fr) = true := by simpa using hg2
          rw [if_pos (Or.inr hg2)] at hq
          have HQ := Lib.hid hq; clear hq hn
          go_wp2
          go_ret
          exact ⟨ret_bool HQ.out.symm, below_al hB.out _⟩
        · have hg2' : decide (es[k].to < es[k].fr) = false := by simpa using hg2
          rw [if_neg (by omega)] at hq
          have HQ := Lib.hid hq; clear hq hn
          go_wp2
          go_roundw
          case rel => exact ⟨k + 1, _, by go_num, rfl, by omega, HQ.out, hide (below_al hB.out _)⟩
          case measure => simp [intOf]; omega
    · have hq : possibleP 0 es = true := by
        rw [hI.out, List.drop_eq_nil_of_le (by have := HN.out; omega), possibleP]
      have HQ := Lib.hid hq; clear hq hI
      go_wp2
      go_ret
      exact ⟨ret_bool HQ.out.symm, hB.out⟩
end Go.Proofs.Ytbfgnafpianliaa
