/- The law on what Shift keeps: the walk. -/
import Derived.Test.YtbfgnafpianliaaLawB
import Derived.Test.YtbfgnafpianliaaKeepsP
import Derived.Deep.CutBlock
import Derived.Deep.CutRange
namespace Go.Proofs.Ytbfgnafpianliaa
open Go.RowKit

theorem sizeP_le : ∀ (l : List Ed) (x p n : Int), Chain n p l → (∀ e ∈ l, e.tx.size ≤ 60) → sizeP x l ≤ x + 60 * l.length
  | [], x, p, n, _, _ => by simp [sizeP]
  | e :: l, x, p, n, ⟨_, h2, _, h4⟩, h => by
    have := sizeP_le l (x + chg e) _ n h4 (fun a ha => h a (List.mem_cons_of_mem _ ha))
    have he := h e (List.mem_cons_self ..)
    simp only [sizeP, List.length_cons]
    have hc : chg e ≤ 60 := by unfold chg; omega
    omega
theorem cov_end {n : Int} : ∀ {l : List Ed} {p : Int} (st : Bool × ByteArray), Chain n p l → covL n st l = st
  | [], _, _, _ => rfl
  | e :: l, p, st, ⟨_, _, h3, h4⟩ => by
    unfold covL
    rw [if_neg (by omega)]
    exact cov_end st h4
theorem gb_eq (s : ByteArray) (i : Nat) (h : i < s.size) : s.data.toList[i]? = some s[i] := by
  rw [Array.getElem?_toList]
  exact Array.getElem?_eq_getElem h
theorem shiftP_chain {n : Int} {es : List Ed} (h : Chain n 0 es) (i : Nat) (hi : i ≤ 400) : shiftP i es = shiftL i 0 es := by
  rw [shiftP, if_neg (by rw [possible_chain h]; simp; omega)]

set_option maxHeartbeats 2000000 in
set_option maxRecDepth 100000 in
theorem Keeps_run (s : ByteArray) (v : Value) (es : List Ed) (w : World) (h : Eds w w.heap.size v es) (hs : s.size ≤ maxLen) :
    Calls Try.prog 7 #[.string s, v] w fun e w' => e = .returned (.bool true) ∧ Below w.heap.size w w' := by
  have HSM := hide (Small_run s v es w _ h hs)
  have HE := hide h
  obtain ⟨b, hb⟩ : ∃ b, b = smallP s es := ⟨_, rfl⟩
  rw [← hb] at HSM
  have HBB := Lib.hid hb
  clear hb
  go_enter Try.func7, Try.ntmps7
  cases b with
  | false =>
    clear h hs
    go_wp2_with fail
    refine (unhide HSM).mono ?_; rintro e w' ⟨rfl, rfl⟩
    go_wp2_with fail
    refine (example_run w).mono ?_; rintro e w' ⟨rfl, hB⟩
    go_wp2_with fail
    go_ret
    exact ⟨rfl, hB⟩
  | true =>
    obtain ⟨h1, h2, h3, hF⟩ := small_fit HBB.out.symm
    have HF := hide hF
    have H3 := hide h3
    have hs' : s.size ≤ 1000000000000 := by omega
    have HC := hide (Check_run s v es w HE.out hs)
    obtain ⟨c, hc⟩ : ∃ c, c = checkP s.size es := ⟨_, rfl⟩
    rw [← hc] at HC
    have HCC := Lib.hid hc
    clear h hs h3 hF hc
    go_wp2_with fail
    refine (unhide HSM).mono ?_; rintro e w' ⟨rfl, rfl⟩
    by_cases hc0 : c = 0
    · subst hc0
      have hch : Chain s.size 0 es := chain_of_check (by omega) HCC.out.symm
      have hz := sizeP_le es s.size 0 s.size hch H3.out
      obtain ⟨T, hT⟩ : ∃ T, T = joinP s ByteArray.empty 0 es := ⟨_, rfl⟩
      have hap : applyP s es = (T, 0) := by rw [applyP, if_neg (by rw [← HCC.out]; simp), if_neg (by omega), hT]
      have hTs : T.size ≤ 65536 := by
        have := joinP_size s es ByteArray.empty 0 hch
        have h0 : (ByteArray.empty.size : Int) = 0 := rfl
        rw [h0, ← hT, show (0 : Int) + ((s.size : Int) - ((0 : Nat) : Int)) = s.size by omega] at this
        omega
      have HKEEP : Hid (∀ i : Nat, i ≤ s.size → ∃ q : Nat, shiftP i es = q ∧
        ((covL i (true, ByteArray.empty) es).1 = true → (i < s.size → q < T.size ∧ T.data.toList[q]? = s.data.toList[i]?) ∧ (i = s.size → q = T.size)) ∧
        ((covL i (true, ByteArray.empty) es).1 = false → q + (covL i (true, ByteArray.empty) es).2.size ≤ T.size ∧
          T.extract q (q + (covL i (true, ByteArray.empty) es).2.size) = (covL i (true, ByteArray.empty) es).2)) := hide fun i hi => by
        rw [shiftP_chain hch i (by omega), hT]
        exact keeps_heart s i hi es ByteArray.empty 0 0 hch (Nat.zero_le _) rfl
      have HCH := Lib.hid hch
      clear hz hT hch
      go_wp2_with fail
      refine (unhide HC).mono ?_; rintro e w1 ⟨rfl, hB1⟩
      have HE1 := hide ((HE.out.same (Same.of_below hB1)).more hB1.size)
      have HB1 := hide hB1
      have HA := hide (Apply_run s v es w1 HE1.out HF.out hs')
      rw [hap] at HA
      clear hB1 HC hap
      go_wp2_with fail
      refine (unhide HA).mono ?_; rintro e w2 ⟨rfl, hB2⟩
      have HE2 := hide ((HE1.out.same (Same.of_below hB2)).more hB2.size)
      have HB2 := hide (HB1.out.trans (hB2.mono HB1.out.size))
      clear hB2 HA HE1 HB1
      obtain ⟨A, ca, rfl, hca1, hca2, hels⟩ := HE2.out
      have hm := maxLen_le hca2
      have HEL := hide hels
      obtain ⟨n, hn⟩ : ∃ n, n = es.length := ⟨_, rfl⟩
      rw [← hn] at hca1 h2 HE2 ⊢
      have HN := Lib.hid hn
      clear hels hca2 hn
      go_wp2_with fail
      go_loopw [7, 8, 9, 10, 11] (fun iv _ _ _ _ wr => ∃ i : Nat, iv = .int .i64 i ∧ i ≤ s.size ∧ Hid (Below w2.heap.size w2 wr)) (fun iv _ _ _ _ _ => s.size - (intOf iv).toNat)
      case atStart => exact ⟨0, rfl, Nat.zero_le _, hide (Below.refl _ _)⟩
      case round =>
        obtain ⟨i, rfl, hi, hB⟩ := hrel
        by_cases hlt : i < s.size
        · obtain ⟨wx, rfl⟩ : ∃ wx, wx = wr := ⟨_, rfl⟩
          go_wp2_with fail
          go_loop [8, 9, 10] (fun kv fv jv => ∃ (j : Nat) (kb : Bool) (F : ByteArray), jv = .int .i64 j ∧ kv = .bool kb ∧ fv = .string F ∧ j ≤ n ∧ Hid (covL i (true, ByteArray.empty) es = covL i (kb, F) (es.drop j))) (fun _ _ jv => n - (intOf jv).toNat)
          case atStart => exact ⟨0, true, ByteArray.empty, rfl, rfl, rfl, Nat.zero_le _, hide rfl⟩
          case round =>
            obtain ⟨j, kb, F, rfl, rfl, rfl, hj, hI⟩ := hrel
            by_cases hjl : j < n
            · have hjl' : j < es.length := by rw [← HN.out]; exact hjl
              obtain ⟨ad, rfl, hb, hf, ht, hx⟩ := HEL.out.get (Same.of_below hB.out) hjl'
              have hq := hI.out
              rw [drop_at hjl', covL] at hq
              clear hI
              by_cases c1 : es[j].fr ≤ i
              · have g1 : decide (es[j].fr ≤ (i : Int)) = true := by simpa using c1
                by_cases c2 : i < es[j].to
                · have g2 : decide ((i : Int) < es[j].to) = true := by simpa using c2
                  rw [if_pos ⟨c1, c2⟩] at hq
                  have HQ := Lib.hid hq
                  clear hq
                  go_wp2_with fail
                  go_round
                  case rel => exact ⟨j + 1, false, es[j].tx, by go_num, rfl, rfl, by omega, HQ⟩
                  case measure => simp [intOf]; omega
                · have g2 : decide ((i : Int) < es[j].to) = false := by simpa using c2
                  rw [if_neg (fun h => c2 h.2)] at hq
                  have HQ := Lib.hid hq
                  clear hq
                  go_wp2_with fail
                  go_round
                  case rel => exact ⟨j + 1, kb, F, by go_num, rfl, rfl, by omega, HQ⟩
                  case measure => simp [intOf]; omega
              · have g1 : decide (es[j].fr ≤ (i : Int)) = false := by simpa using c1
                rw [if_neg (fun h => c1 h.1)] at hq
                have HQ := Lib.hid hq
                clear hq
                go_wp2_with fail
                go_round
                case rel => exact ⟨j + 1, kb, F, by go_num, rfl, rfl, by omega, HQ⟩
                case measure => simp [intOf]; omega
            · have hq := hI.out
              rw [List.drop_eq_nil_of_le (by rw [← HN.out]; omega), covL] at hq
              obtain ⟨q, hq1, hq2, hq3⟩ := HKEEP.out i hi
              rw [hq] at hq2 hq3
              have HS := hide (Shift_run i (.slice A n ca) es wx ((HE2.out.same (Same.of_below hB.out)).more hB.out.size) HF.out)
              rw [hq1] at HS
              clear hI hq hq1
              go_wp2_with fail
              refine (unhide HS).mono ?_; rintro e wy ⟨rfl, hBy⟩
              have HBy := hide (hB.out.trans (hBy.mono hB.out.size))
              have g0 : decide ((q : Int) < 0) = false := by simp
              clear hBy HS hB
              cases kb with
              | true =>
                obtain ⟨hqa, _⟩ := hq2 rfl
                obtain ⟨hqT, hqe⟩ := hqa hlt
                rw [gb_eq T q hqT, gb_eq s i hlt] at hqe
                injection hqe with hqe
                have g1 : decide (T.size ≤ q) = false := by simp; omega
                clear hq2 hq3 hqa
                go_wp2_with fail
                go_quiet (fail)
                go_wp2_with fail
                go_roundw
                case rel => exact ⟨i + 1, by go_num, by omega, hide (below_drewN HBy.out _)⟩
                case measure => simp [intOf]; omega
              | false =>
                obtain ⟨hqa, hqb⟩ := hq3 rfl
                have g1 : decide ((T.size : Int) < (q : Int) + (F.size : Int)) = false := by simp; omega
                have g1' : decide (T.size < q + F.size) = false := by simp; omega
                have hqb : T.extract q (q + F.size) = F := hqb
                have hqa : q + F.size ≤ T.size := hqa
                have g2 : (F.toList == F.toList) = true := by simp
                have w1 : IntKind.i64.wrap ((q : Int) + (F.size : Int)) = (q : Int) + (F.size : Int) := IntWalk.i64_in _ (by omega)
                clear hq2 hq3
                go_wp2_with fail
                go_quiet (fail)
                go_wp2_with fail
                go_roundw
                case rel => exact ⟨i + 1, by go_num, by omega, hide (below_drewN HBy.out _)⟩
                case measure => simp [intOf]; omega
        · obtain rfl : i = s.size := by omega
          obtain ⟨q, hq1, hq2, _⟩ := HKEEP.out s.size (Nat.le_refl _)
          rw [cov_end _ HCH.out] at hq2
          obtain ⟨_, hq2⟩ := hq2 rfl
          have hq2 := hq2 rfl
          subst hq2
          have HS := hide (Shift_run s.size (.slice A n ca) es wr ((HE2.out.same (Same.of_below hB.out)).more hB.out.size) HF.out)
          rw [hq1] at HS
          have g1 : ((T.size : Int) == T.size) = true := by simp
          clear hq1
          go_wp2_with fail
          refine (unhide HS).mono ?_; rintro e wy ⟨rfl, hBy⟩
          have HBy := hide (HB2.out.trans ((hB.out.trans (hBy.mono hB.out.size)).mono HB2.out.size))
          have HX := hide (example_run wy)
          clear hBy HS hB
          go_wp2_with fail
          refine (unhide HX).mono ?_; rintro e w3 ⟨rfl, hB3⟩
          have HB3 := hide (HBy.out.trans (hB3.mono HBy.out.size))
          clear hB3
          go_wp2_with fail
          go_ret
          exact ⟨rfl, HB3.out⟩
    · have hk' : (c == 0) = false := by simpa using hc0
      go_wp2_with fail
      refine (unhide HC).mono ?_; rintro e w1 ⟨rfl, hB1⟩
      have HB1 := hide hB1
      clear hB1
      have HX := hide (example_run w1)
      go_wp2_with fail
      refine (unhide HX).mono ?_; rintro e w3 ⟨rfl, hB3⟩
      have HB3 := hide (HB1.out.trans (hB3.mono HB1.out.size))
      clear hB3
      go_wp2_with fail
      go_ret
      exact ⟨rfl, HB3.out⟩
end Go.Proofs.Ytbfgnafpianliaa
