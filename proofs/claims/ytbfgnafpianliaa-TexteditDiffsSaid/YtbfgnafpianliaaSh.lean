/- Shift and its reference. -/
import Derived.Test.YtbfgnafpianliaaCk
namespace Go.Proofs.Ytbfgnafpianliaa
open Go.RowKit

theorem Shift_run (at' : Int) (v : Value) (es : List Ed) (w : World) (h : Eds w w.heap.size v es) (hF : Fit es) :
    Calls Try.prog 17 #[.int .i64 at', v] w fun e w' => e = .returned (.int .i64 (shiftP at' es)) ∧ Below w.heap.size w w' := by
  have hP := possible_run v es w h
  obtain ⟨A, c, rfl, hc1, hc2, hels⟩ := h
  have hm := maxLen_le hc2
  obtain ⟨hF1, hF2⟩ := hF
  have HF := Lib.hid hF2
  have HE := Lib.hid hels; clear hels hc2 hF2
  obtain ⟨n, hn⟩ : ∃ n, n = es.length := ⟨_, rfl⟩
  rw [← hn] at hc1 hP hF1 ⊢
  have HN := Lib.hid hn
  obtain ⟨r, hr⟩ : ∃ r, r = shiftP at' es := ⟨_, rfl⟩
  rw [← hr]
  have HR := Lib.hid hr
  clear hn hr
  by_cases g1 : at' < 0
  · have g1' : decide (at' < 0) = true := by simpa using g1
    have hr : r = at' := by rw [HR.out, shiftP, if_pos (Or.inl g1)]
    have HQ := Lib.hid hr; clear hr hP
    go_enter Try.func17, Try.ntmps17
    go_wp2
    go_ret
    exact ⟨ret_int HQ.out.symm, Below.refl _ _⟩
  have g1' : decide (at' < 0) = false := by simpa using g1
  by_cases g2 : 2147483647 < at'
  · have g2' : decide (2147483647 < at') = true := by simpa using g2
    have hr : r = at' := by rw [HR.out, shiftP, if_pos (Or.inr (Or.inl g2))]
    have HQ := Lib.hid hr; clear hr hP
    go_enter Try.func17, Try.ntmps17
    go_wp2
    go_ret
    exact ⟨ret_int HQ.out.symm, Below.refl _ _⟩
  have g2' : decide (2147483647 < at') = false := by simpa using g2
  obtain ⟨b, hb⟩ : ∃ b, b = possibleP 0 es := ⟨_, rfl⟩
  rw [← hb] at hP
  cases b with
  | false =>
    have hr : r = at' := by rw [HR.out, shiftP, if_pos (Or.inr (Or.inr hb.symm))]
    have HQ := Lib.hid hr; have HP := hide hP; clear hr hP hb
    go_enter Try.func17, Try.ntmps17
    go_wp2_with (go_at_call 29; refine (unhide HP).mono ?_; rintro e w' ⟨rfl, hB⟩)
    go_ret
    exact ⟨ret_int HQ.out.symm, hB⟩
  | true =>
    have hr : r = shiftL at' 0 es := by rw [HR.out, shiftP, if_neg (by rw [← hb]; simp; omega)]
    have HQ := Lib.hid hr; have HP := hide hP; have HB := hide hb.symm; clear hr hP hb
    go_enter Try.func17, Try.ntmps17
    go_wp2_with (go_at_call 29; refine (unhide HP).mono ?_; rintro e wp ⟨rfl, hBp⟩)
    go_loopw [5, 7, 22] (fun cv e i wr => ∃ (k : Nat) (C : Int), i = .int .i64 k ∧ cv = .int .i64 C ∧ k ≤ n ∧ -4000000000 * (k : Int) ≤ C ∧ C ≤ 4000000000 * (k : Int) ∧ Hid (r = shiftL at' C (es.drop k)) ∧ Hid (∃ L, 0 ≤ L ∧ possibleP L (es.drop k) = true) ∧ Hid (Below w.heap.size w wr)) (fun _ _ i _ => n - (intOf i).toNat)
    case atStart => exact ⟨0, 0, rfl, rfl, by omega, by omega, by omega, HQ, hide ⟨0, by omega, HB⟩, hide hBp⟩
    case round =>
      clear HQ hBp
      obtain ⟨k, C, rfl, rfl, hk2, hC1, hC2, hI, hL, hB⟩ := hrel
      by_cases hlt : k < n
      · have hn := HN.out
        have hlt' : k < es.length := by omega
        obtain ⟨ad, rfl, hb, hf, ht, hx⟩ := HE.out.get (Same.of_below hB.out) hlt'
        have hq := hI.out
        obtain ⟨L, hL0, hL⟩ := hL.out
        have hF : es[k].tx.size ≤ 1000000000 := HF.out _ (List.getElem_mem hlt')
        rw [drop_at hlt', shiftL] at hq
        rw [drop_at hlt', possibleP] at hL
        split at hL
        · cases hL
        rename_i hL1
        have hL2 := hide hL
        clear hI hL
        have hfr : 0 ≤ es[k].fr := by omega
        have hft : es[k].fr ≤ es[k].to := by omega
        by_cases hg : es[k].to ≤ at'
        · have hg' : decide (es[k].to ≤ at') = true := by simpa using hg
          have e1 : IntKind.i64.wrap (es[k].to - es[k].fr) = es[k].to - es[k].fr := IntWalk.i64_in _ (by omega)
          have e2 : IntKind.i64.wrap ((es[k].tx.size : Int) - (es[k].to - es[k].fr)) = (es[k].tx.size : Int) - (es[k].to - es[k].fr) := IntWalk.i64_in _ (by omega)
          have e3 : IntKind.i64.wrap (C + ((es[k].tx.size : Int) - (es[k].to - es[k].fr))) = C + ((es[k].tx.size : Int) - (es[k].to - es[k].fr)) := IntWalk.i64_in _ (by omega)
          rw [if_pos hg] at hq
          have HQ := Lib.hid hq; clear hq hn
          go_wp2
          go_roundw
          case rel => exact ⟨k + 1, _, by go_num, rfl, by omega, by omega, by omega, HQ.out, hide ⟨_, by omega, hL2.out⟩, hide (below_al hB.out _)⟩
          case measure => simp [intOf]; omega
        · have hg' : decide (es[k].to ≤ at') = false := by simpa using hg
          rw [if_neg hg] at hq
          by_cases hg2 : es[k].fr ≤ at'
          · have hg2' : decide (es[k].fr ≤ at') = true := by simpa using hg2
            have e3 : IntKind.i64.wrap (es[k].fr + C) = es[k].fr + C := IntWalk.i64_in _ (by omega)
            rw [if_pos hg2] at hq
            have HQ := Lib.hid hq; clear hq hn
            go_wp2
            go_ret
            exact ⟨ret_int HQ.out.symm, below_al hB.out _⟩
          · have hg2' : decide (es[k].fr ≤ at') = false := by simpa using hg2
            rw [if_neg hg2] at hq
            have HQ := Lib.hid hq; clear hq hn
            go_wp2
            go_roundw
            case rel => exact ⟨k + 1, _, by go_num, rfl, by omega, by omega, by omega, HQ.out, hide ⟨_, by omega, hL2.out⟩, hide (below_al hB.out _)⟩
            case measure => simp [intOf]; omega
      · have hq : r = at' + C := by
          rw [hI.out, List.drop_eq_nil_of_le (by have := HN.out; omega), shiftL]
        have e3 : IntKind.i64.wrap (at' + C) = at' + C := IntWalk.i64_in _ (by omega)
        have HQ := Lib.hid hq; clear hq hI
        go_wp2
        go_ret
        exact ⟨ret_int HQ.out.symm, hB.out⟩

theorem possible_eq {es : List Ed} (hM : ∀ e ∈ es, e.to ≤ 9223372036854775807) : possibleP 0 es = (insideP 9223372036854775807 es && orderedP es) := by
  rw [possible_iff (Int.le_refl 0) hM]
  cases hi : insideP 9223372036854775807 es with
  | false => simp
  | true =>
    simp
    cases es with
    | nil => rfl
    | cons e l =>
      unfold insideP at hi
      split at hi
      · cases hi
      · simp only [orderedQ, orderedP]
        rw [if_neg (by omega)]

theorem refShift_run (at' : Int) (v : Value) (es : List Ed) (w : World) (B : Nat) (h : Eds w B v es) (hF : Fit es) (hM : ∀ e ∈ es, e.to ≤ 9223372036854775807) :
    Calls Try.prog 18 #[.int .i64 at', v] w (Quiet (.int .i64 (shiftP at' es)) w) := by
  have HIN : ∀ m, Hid (Calls Try.prog 27 #[.int .i64 9223372036854775807, v] (w.drewN m) (Quiet (.bool (insideP 9223372036854775807 es)) (w.drewN m))) := fun m => hide (inside_run _ v es _ B (h.same (Same.drewN m)))
  have HOR : ∀ m, Hid (Calls Try.prog 28 #[v] (w.drewN m) (Quiet (.bool (orderedP es)) (w.drewN m))) := fun m => hide (ordered_run v es _ B (h.same (Same.drewN m)))
  have hPE := possible_eq hM
  have H1 := HIN 0
  clear hM
  obtain ⟨A, c, rfl, hc1, hc2, hels⟩ := h
  have hm := maxLen_le hc2
  obtain ⟨hF1, hF2⟩ := hF
  have HF := Lib.hid hF2
  have HE := Lib.hid hels; clear hels hc2 hF2
  obtain ⟨n, hn⟩ : ∃ n, n = es.length := ⟨_, rfl⟩
  rw [← hn] at hc1 H1 hF1 ⊢
  have HIN : ∀ m, Hid (Calls Try.prog 27 #[.int .i64 9223372036854775807, .slice A n c] (w.drewN m) (Quiet (.bool (insideP 9223372036854775807 es)) (w.drewN m))) := by rw [hn]; exact HIN
  have HOR : ∀ m, Hid (Calls Try.prog 28 #[.slice A n c] (w.drewN m) (Quiet (.bool (orderedP es)) (w.drewN m))) := by rw [hn]; exact HOR
  have HN := Lib.hid hn
  obtain ⟨r, hr⟩ : ∃ r, r = shiftP at' es := ⟨_, rfl⟩
  rw [← hr]
  have HR := Lib.hid hr
  clear hn hr
  by_cases g1 : at' < 0
  · have g1' : decide (at' < 0) = true := by simpa using g1
    have hr : r = at' := by rw [HR.out, shiftP, if_pos (Or.inl g1)]
    have HQ := Lib.hid hr; clear hr H1 HIN HOR
    go_enter Try.func18, Try.ntmps18
    go_wp2
    go_ret
    exact ⟨ret_int HQ.out.symm, 0, rfl⟩
  have g1' : decide (at' < 0) = false := by simpa using g1
  by_cases g2 : 2147483647 < at'
  · have g2' : decide (2147483647 < at') = true := by simpa using g2
    have hr : r = at' := by rw [HR.out, shiftP, if_pos (Or.inr (Or.inl g2))]
    have HQ := Lib.hid hr; clear hr H1 HIN HOR
    go_enter Try.func18, Try.ntmps18
    go_wp2
    go_ret
    exact ⟨ret_int HQ.out.symm, 0, rfl⟩
  have g2' : decide (2147483647 < at') = false := by simpa using g2
  obtain ⟨bi, hbi⟩ : ∃ b, b = insideP 9223372036854775807 es := ⟨_, rfl⟩
  obtain ⟨bo, hbo⟩ : ∃ b, b = orderedP es := ⟨_, rfl⟩
  rw [← hbi] at H1 HIN hPE; rw [← hbo] at HOR hPE
  cases bi with
  | false =>
    have hr : r = at' := by rw [HR.out, shiftP, if_pos (Or.inr (Or.inr (by rw [hPE]; rfl)))]
    have HQ := Lib.hid hr; clear hr hPE hbi hbo
    go_enter Try.func18, Try.ntmps18
    go_wp2_with (go_at_call 27; refine (unhide H1).mono ?_; rintro e w' ⟨rfl, m, rfl⟩)
    go_ret
    exact ⟨ret_int HQ.out.symm, _, rfl⟩
  | true =>
    cases bo with
    | false =>
      have hr : r = at' := by rw [HR.out, shiftP, if_pos (Or.inr (Or.inr (by rw [hPE]; rfl)))]
      have HQ := Lib.hid hr; clear hr hPE hbi hbo
      go_enter Try.func18, Try.ntmps18
      go_wp2_with (first | (go_at_call 27; refine (unhide H1).mono ?_; rintro e w' ⟨rfl, m, rfl⟩) | (go_at_call 28; refine (unhide (HOR _)).mono ?_; rintro e w' ⟨rfl, m', rfl⟩))
      go_ret
      exact ⟨ret_int HQ.out.symm, by first | exact drew2 _ _ _ | exact ⟨_, rfl⟩⟩
    | true =>
      have hr : r = shiftL at' 0 es := by rw [HR.out, shiftP, if_neg (by rw [hPE]; simp; omega)]
      have HQ := Lib.hid hr; have HB := Lib.hid hPE; clear hr hPE hbi hbo
      go_enter Try.func18, Try.ntmps18
      go_wp2_with (first | (go_at_call 27; refine (unhide H1).mono ?_; rintro e w' ⟨rfl, m, rfl⟩) | (go_at_call 28; refine (unhide (HOR _)).mono ?_; rintro e w' ⟨rfl, m', rfl⟩))
      go_loopw [5, 6] (fun cv i wr => ∃ (k : Nat) (C : Int), i = .int .i64 k ∧ cv = .int .i64 C ∧ k ≤ n ∧ -4000000000 * (k : Int) ≤ C ∧ C ≤ 4000000000 * (k : Int) ∧ Hid (r = shiftL at' C (es.drop k)) ∧ Hid (∃ L, 0 ≤ L ∧ possibleP L (es.drop k) = true) ∧ ∃ m, wr = w.drewN m) (fun _ i _ => n - (intOf i).toNat)
      case atStart => exact ⟨0, 0, rfl, rfl, by omega, by omega, by omega, HQ, hide ⟨0, by omega, HB.out⟩, by first | exact drew2 _ _ _ | exact ⟨_, rfl⟩⟩
      case round =>
        clear HQ HIN HOR H1 HB
        obtain ⟨k, C, rfl, rfl, hk2, hC1, hC2, hI, hL, m, rfl⟩ := hrel
        by_cases hlt : k < n
        · have hn := HN.out
          have hlt' : k < es.length := by omega
          obtain ⟨ad, rfl, hb, hf, ht, hx⟩ := HE.out.get Same.refl hlt'
          have hq := hI.out
          obtain ⟨L, hL0, hL⟩ := hL.out
          have hF : es[k].tx.size ≤ 1000000000 := HF.out _ (List.getElem_mem hlt')
          rw [drop_at hlt', shiftL] at hq
          rw [drop_at hlt', possibleP] at hL
          split at hL
          · cases hL
          rename_i hL1
          have hL2 := hide hL
          clear hI hL
          have hfr : 0 ≤ es[k].fr := by omega
          have hft : es[k].fr ≤ es[k].to := by omega
          by_cases hg : es[k].to ≤ at'
          · have hg' : decide (es[k].to ≤ at') = true := by simpa using hg
            have hg3 : decide (at' < es[k].to) = false := by simpa using hg
            have hg4 : decide (es[k].fr ≤ at') = true := by simp; omega
            have e1 : IntKind.i64.wrap (es[k].to - es[k].fr) = es[k].to - es[k].fr := IntWalk.i64_in _ (by omega)
            have e2 : IntKind.i64.wrap (C + (es[k].tx.size : Int)) = C + (es[k].tx.size : Int) := IntWalk.i64_in _ (by omega)
            have e3 : IntKind.i64.wrap (C + (es[k].tx.size : Int) - (es[k].to - es[k].fr)) = C + (es[k].tx.size : Int) - (es[k].to - es[k].fr) := IntWalk.i64_in _ (by omega)
            rw [if_pos hg] at hq
            have HQ := Lib.hid hq; clear hq hn
            go_wp2
            go_quiet (fail)
            go_wp2
            go_roundw
            case rel => exact ⟨k + 1, _, by go_num, rfl, by omega, by omega, by omega, (by rw [show C + (es[k].tx.size : Int) - (es[k].to - es[k].fr) = C + chg es[k] by unfold chg; omega]; exact HQ.out), hide ⟨_, by omega, hL2.out⟩, by first | exact drew2 _ _ _ | exact ⟨_, rfl⟩⟩
            case measure => simp [intOf]; omega
          · have hg' : decide (es[k].to ≤ at') = false := by simpa using hg
            have hg3 : decide (at' < es[k].to) = true := by simp; omega
            rw [if_neg hg] at hq
            by_cases hg2 : es[k].fr ≤ at'
            · have hg2' : decide (es[k].fr ≤ at') = true := by simpa using hg2
              have e3 : IntKind.i64.wrap (es[k].fr + C) = es[k].fr + C := IntWalk.i64_in _ (by omega)
              rw [if_pos hg2] at hq
              have HQ := Lib.hid hq; clear hq hn
              go_wp2
              go_ret
              exact ⟨ret_int HQ.out.symm, by first | exact drew2 _ _ _ | exact ⟨_, rfl⟩⟩
            · have hg2' : decide (es[k].fr ≤ at') = false := by simpa using hg2
              rw [if_neg hg2] at hq
              have HQ := Lib.hid hq; clear hq hn
              go_wp2
              go_roundw
              case rel => exact ⟨k + 1, _, by go_num, rfl, by omega, by omega, by omega, HQ.out, hide ⟨_, by omega, hL2.out⟩, by first | exact drew2 _ _ _ | exact ⟨_, rfl⟩⟩
              case measure => simp [intOf]; omega
        · have hq : r = at' + C := by
            rw [hI.out, List.drop_eq_nil_of_le (by have := HN.out; omega), shiftL]
          have e3 : IntKind.i64.wrap (at' + C) = at' + C := IntWalk.i64_in _ (by omega)
          have HQ := Lib.hid hq; clear hq hI
          go_wp2
          go_ret
          exact ⟨ret_int HQ.out.symm, by first | exact drew2 _ _ _ | exact ⟨_, rfl⟩⟩
end Go.Proofs.Ytbfgnafpianliaa
