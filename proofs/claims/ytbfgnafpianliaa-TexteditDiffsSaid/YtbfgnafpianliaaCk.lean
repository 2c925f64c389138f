/- Check and its reference. -/
import Derived.Test.YtbfgnafpianliaaRo
namespace Go.Proofs.Ytbfgnafpianliaa
open Go.RowKit

theorem size_le {s : ByteArray} (h : s.size ≤ maxLen) : (s.size : Int) ≤ 9223372036854775807 := by unfold maxLen at h; omega

theorem Check_run (s : ByteArray) (v : Value) (es : List Ed) (w : World) (h : Eds w w.heap.size v es) (hs : s.size ≤ maxLen) :
    Calls Try.prog 15 #[.string s, v] w fun e w' => e = .returned (.int .i64 (checkP s.size es)) ∧ Below w.heap.size w w' := by
  obtain ⟨A, c, rfl, hc1, hc2, hels⟩ := h
  have hm := maxLen_le hc2
  have hss := maxLen_le hs
  have HE := Lib.hid hels; clear hels hc2 hs
  obtain ⟨n, hn⟩ : ∃ n, n = es.length := ⟨_, rfl⟩
  rw [← hn] at hc1 ⊢
  have HN := Lib.hid hn
  obtain ⟨z, hz⟩ : ∃ n, n = s.size := ⟨_, rfl⟩
  rw [← hz] at hss ⊢
  have HZ := Lib.hid hz
  clear hn hz
  go_enter Try.func15, Try.ntmps15
  go_wp2
  go_loopw [6, 10] (fun e i wr => ∃ (k : Nat), i = .int .i64 k ∧ k ≤ n ∧ Hid (insideP z es = insideP z (es.drop k)) ∧ Hid (Below w.heap.size w wr)) (fun _ i _ => n - (intOf i).toNat)
  case atStart => exact ⟨0, rfl, by omega, by rfl, hide (Below.refl _ _)⟩
  case round =>
    obtain ⟨k, rfl, hk2, hI, hB⟩ := hrel
    by_cases hlt : k < n
    · have hn := HN.out
      have hz := HZ.out
      have hlt' : k < es.length := by omega
      obtain ⟨ad, rfl, hb, hf, ht, hx⟩ := HE.out.get (Same.of_below hB.out) hlt'
      have hq := hI.out
      rw [drop_at hlt', insideP] at hq
      clear hI
      by_cases hg : es[k].fr < 0
      · have hg' : decide (es[k].fr < 0) = true := by simpa using hg
        rw [if_pos (Or.inl hg)] at hq
        have HQ := Lib.hid hq; clear hq hn hz
        go_wp2
        go_ret
        exact ⟨ret_int (by rw [checkP, HQ.out]; rfl), below_al hB.out _⟩
      · have hg' : decide (es[k].fr < 0) = false := by simpa using hg
        by_cases hg2 : es[k].to < es[k].fr
        · have hg2' : decide (es[k].to < es[k].fr) = true := by simpa using hg2
          rw [if_pos (Or.inr (Or.inl hg2))] at hq
          have HQ := Lib.hid hq; clear hq hn hz
          go_wp2
          go_ret
          exact ⟨ret_int (by rw [checkP, HQ.out]; rfl), below_al hB.out _⟩
        · have hg2' : decide (es[k].to < es[k].fr) = false := by simpa using hg2
          by_cases hg3 : (z : Int) < es[k].to
          · have hg3' : decide ((s.size : Int) < es[k].to) = true := by rw [← hz]; simpa using hg3
            rw [if_pos (Or.inr (Or.inr hg3))] at hq
            have HQ := Lib.hid hq; clear hq hn hz
            go_wp2
            go_ret
            exact ⟨ret_int (by rw [checkP, HQ.out]; rfl), below_al hB.out _⟩
          · have hg3' : decide ((s.size : Int) < es[k].to) = false := by rw [← hz]; simpa using hg3
            rw [if_neg (by omega)] at hq
            have HQ := Lib.hid hq; clear hq hn hz
            go_wp2
            go_roundw
            case rel => exact ⟨k + 1, by go_num, by omega, HQ.out, hide (below_al hB.out _)⟩
            case measure => simp [intOf]; omega
    · have hq : insideP z es = true := by
        rw [hI.out, List.drop_eq_nil_of_le (by have := HN.out; omega), insideP]
      have HP := Lib.hid hq; clear hq hI
      obtain ⟨wq, hwq⟩ : ∃ wq, wq = wr := ⟨_, rfl⟩
      subst hwq
      go_wp2
      go_loopw [7] (fun i wr => ∃ k : Nat, 1 ≤ k ∧ i = .int .i64 k ∧ (k ≤ n ∨ k = 1) ∧ Hid (∀ (h : k - 1 < es.length), orderedP es = orderedQ es[k-1].to (es.drop k)) ∧ ∃ m, wr = wq.drewN m) (fun i _ => n + 1 - (intOf i).toNat)
      case atStart =>
        refine ⟨1, Nat.le_refl _, rfl, by omega, fun h => ?_, 0, by rfl⟩
        cases es with
        | nil => simp at h
        | cons e l => rfl
      case round =>
        obtain ⟨k, hk1, rfl, hk2, hI, m, rfl⟩ := hrel
        by_cases hlt : k < n
        · have hn := HN.out
          have hlt' : k < es.length := by omega
          have hlt2 : k - 1 < es.length := by omega
          obtain ⟨ad, rfl, hb, hf, ht, hx⟩ := HE.out.get (Same.of_below hB.out) hlt'
          obtain ⟨ad', ha', hb', hf', ht', hx'⟩ := HE.out.get (Same.of_below hB.out) hlt2
          injection ha' with ha'
          subst ha'
          have hw : IntKind.i64.wrap ((k:Int) - 1) = (k:Int) - 1 := IntWalk.i64_in _ (by omega)
          have hk1' : (1:Int) ≤ k := by omega
          have hq := hI.out hlt2
          rw [drop_at hlt', orderedQ] at hq
          clear hI
          by_cases hg : es[k].fr < es[k-1].to
          · have hg' : decide (es[k].fr < es[k-1].to) = true := by simpa using hg
            rw [if_pos hg] at hq
            have HQ := Lib.hid hq; clear hq hn
            go_wp2
            go_quiet (fail)
            go_wp2
            go_ret
            exact ⟨ret_int (by rw [checkP, HP.out, HQ.out]; rfl), below_drewN (by first | exact hB.out | exact below_drewN hB.out _) _⟩
          · have hg' : decide (es[k].fr < es[k-1].to) = false := by simpa using hg
            rw [if_neg hg] at hq
            have HQ := Lib.hid hq; clear hq hn
            go_wp2
            go_quiet (fail)
            go_wp2
            go_roundw
            case rel => exact ⟨k + 1, by omega, by go_num, by omega, fun _ => HQ.out, by first | exact drew2 _ _ _ | exact ⟨_, rfl⟩⟩
            case measure => simp [intOf]; omega
        · have hq : orderedP es = true := by
            cases es with
            | nil => rfl
            | cons e l =>
              have hN := HN.out
              simp only [List.length_cons] at hN
              rw [hI.out (by simp only [List.length_cons]; omega), List.drop_eq_nil_of_le (by simp only [List.length_cons]; omega), orderedQ]
          have HQ := Lib.hid hq; clear hq hI
          go_wp2
          go_ret
          exact ⟨ret_int (by rw [checkP, HP.out, HQ.out]; rfl), below_drewN hB.out _⟩

theorem refCheck_run (s : ByteArray) (v : Value) (es : List Ed) (w : World) (B : Nat) (h : Eds w B v es) (hs : s.size ≤ maxLen) :
    Calls Try.prog 16 #[.string s, v] w (Quiet (.int .i64 (checkP s.size es)) w) := by
  have hss := maxLen_le hs
  obtain ⟨z, hz⟩ : ∃ n, n = s.size := ⟨_, rfl⟩
  have HIN : ∀ m, Hid (Calls Try.prog 27 #[.int .i64 s.size, v] (w.drewN m) (Quiet (.bool (insideP s.size es)) (w.drewN m))) := fun m => hide (inside_run _ v es _ B (h.same (Same.drewN m)))
  have HOR : ∀ m, Hid (Calls Try.prog 28 #[v] (w.drewN m) (Quiet (.bool (orderedP es)) (w.drewN m))) := fun m => hide (ordered_run v es _ B (h.same (Same.drewN m)))
  have H1 := HIN 0
  obtain ⟨bi, hbi⟩ : ∃ b, b = insideP s.size es := ⟨_, rfl⟩
  obtain ⟨bo, hbo⟩ : ∃ b, b = orderedP es := ⟨_, rfl⟩
  have HR : Hid (checkP s.size es = if bi = false then 1 else if bo = false then 6 else 0) := hide (by rw [checkP, hbi, hbo])
  obtain ⟨r, hr⟩ : ∃ r, r = checkP s.size es := ⟨_, rfl⟩
  have HR2 := Lib.hid hr
  rw [← hbi] at H1 HIN; rw [← hbo] at HOR
  rw [← hr]
  clear hbi hbo hz h hr
  go_enter Try.func16, Try.ntmps16
  cases bi with
  | false =>
    go_wp2_with (go_at_call 27; refine (unhide H1).mono ?_; rintro e w' ⟨rfl, m, rfl⟩)
    go_ret
    exact ⟨ret_int (by rw [HR2.out, HR.out]; rfl), ⟨_, rfl⟩⟩
  | true =>
    cases bo with
    | false =>
      go_wp2_with (first | (go_at_call 27; refine (unhide H1).mono ?_; rintro e w' ⟨rfl, m, rfl⟩) | (go_at_call 28; refine (unhide (HOR _)).mono ?_; rintro e w' ⟨rfl, m', rfl⟩))
      go_ret
      exact ⟨ret_int (by rw [HR2.out, HR.out]; rfl), by first | exact drew2 _ _ _ | exact ⟨_, rfl⟩⟩
    | true =>
      go_wp2_with (first | (go_at_call 27; refine (unhide H1).mono ?_; rintro e w' ⟨rfl, m, rfl⟩) | (go_at_call 28; refine (unhide (HOR _)).mono ?_; rintro e w' ⟨rfl, m', rfl⟩))
      go_ret
      exact ⟨ret_int (by rw [HR2.out, HR.out]; rfl), by first | exact drew2 _ _ _ | exact ⟨_, rfl⟩⟩

/-- Two lists of edits are equal. -/
def sameP (a b : List Ed) : Bool := decide (a.length = b.length) && (a.zip b).all fun p => p.1.fr == p.2.fr && p.1.to == p.2.to && p.1.tx == p.2.tx

end Go.Proofs.Ytbfgnafpianliaa
