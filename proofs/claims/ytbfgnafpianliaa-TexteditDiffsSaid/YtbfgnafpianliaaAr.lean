/- The reference's Apply. -/
import Derived.Test.YtbfgnafpianliaaAp
namespace Go.Proofs.Ytbfgnafpianliaa
open Go.RowKit

set_option maxHeartbeats 1000000 in
theorem refApply_run (s : ByteArray) (v : Value) (es : List Ed) (w : World) (B : Nat) (h : Eds w B v es) (hF : Fit es) (hs : s.size ≤ 1000000000000) :
    Calls Try.prog 14 #[.string s, v] w (Quiet (.tuple #[.string (applyP s es).1, .int .i64 (applyP s es).2]) w) := by
  have hC := refCheck_run s v es w B h (by unfold maxLen; omega)
  obtain ⟨A, c, rfl, hc1, hc2, hels⟩ := h
  have hm := maxLen_le hc2
  obtain ⟨hF1, hF2⟩ := hF
  have HF := Lib.hid hF2
  have HE := Lib.hid hels; clear hels hc2 hF2
  obtain ⟨n, hn⟩ : ∃ n, n = es.length := ⟨_, rfl⟩
  rw [← hn] at hc1 hC hF1 ⊢
  have HN := Lib.hid hn
  obtain ⟨r, hr⟩ : ∃ r, r = applyP s es := ⟨_, rfl⟩
  rw [← hr]
  obtain ⟨k0, hk0⟩ : ∃ k, k = checkP s.size es := ⟨_, rfl⟩
  rw [← hk0] at hC
  have HC := hide hC
  have HR := Lib.hid hr
  have HK := Lib.hid hk0
  clear hn hr hC hk0
  by_cases hk : k0 = 0
  · subst hk
    have hch : Chain s.size 0 es := chain_of_check (by omega) HK.out.symm
    have HCh := Lib.hid hch
    clear hch
    go_enter Try.func14, Try.ntmps14
    go_wp2_with (go_at_call 16; refine (unhide HC).mono ?_; rintro e w' ⟨rfl, m0, rfl⟩)
    go_loopw [7, 8] (fun xv i wr => ∃ (k : Nat) (X p : Int), i = .int .i64 k ∧ xv = .int .i64 X ∧ k ≤ n ∧ 0 ≤ p ∧ p ≤ s.size ∧ s.size - p ≤ X ∧ X ≤ s.size + 1000000000 * (k : Int) ∧ Hid (sizeP s.size es = sizeP X (es.drop k)) ∧ Hid (Chain s.size p (es.drop k)) ∧ ∃ m, wr = w.drewN m) (fun _ i _ => n - (intOf i).toNat)
    case atStart => exact ⟨0, s.size, 0, rfl, rfl, by omega, by omega, by omega, by omega, by omega, by rfl, HCh, _, rfl⟩
    case round =>
      obtain ⟨k, X, p, rfl, rfl, hk2, hp0, hp1, hX1, hX2, hI, hL, m, rfl⟩ := hrel
      by_cases hlt : k < n
      · have hn := HN.out
        have hlt' : k < es.length := by omega
        obtain ⟨ad, rfl, hb, hf, ht, hx⟩ := HE.out.get Same.refl hlt'
        have hq := hI.out
        have hL' := hL.out
        have hF : es[k].tx.size ≤ 1000000000 := HF.out _ (List.getElem_mem hlt')
        rw [drop_at hlt', sizeP] at hq
        rw [drop_at hlt'] at hL'
        obtain ⟨l1, l2, l3, l4⟩ := hL'
        have HL := Lib.hid l4
        have HQ := Lib.hid hq
        clear hI hL l4 hq
        have e1 : IntKind.i64.wrap (es[k].to - es[k].fr) = es[k].to - es[k].fr := IntWalk.i64_in _ (by omega)
        have e2 : IntKind.i64.wrap (X + (es[k].tx.size : Int)) = X + (es[k].tx.size : Int) := IntWalk.i64_in _ (by omega)
        have e3 : IntKind.i64.wrap (X + (es[k].tx.size : Int) - (es[k].to - es[k].fr)) = X + (es[k].tx.size : Int) - (es[k].to - es[k].fr) := IntWalk.i64_in _ (by omega)
        clear hn
        go_wp2
        go_quiet (fail)
        go_wp2
        go_roundw
        case rel => exact ⟨k + 1, _, es[k].to, by go_num, rfl, by omega, by omega, by omega, by omega, by omega, (by rw [show X + (es[k].tx.size : Int) - (es[k].to - es[k].fr) = X + chg es[k] by unfold chg; omega]; exact HQ.out), HL, by first | exact drew2 _ _ _ | exact ⟨_, rfl⟩⟩
        case measure => simp [intOf]; omega
      · have hq : sizeP s.size es = X := by
          rw [hI.out, List.drop_eq_nil_of_le (by have := HN.out; omega), sizeP]
        have HS := Lib.hid hq
        clear hI hL hq
        by_cases hX : 65536 < X
        · have hX' : decide (X > 65536) = true := by simpa using hX
          have hrr : r = (ByteArray.empty, 2) := by
            rw [HR.out, applyP, if_neg (by rw [← HK.out]; simp), if_pos (by rw [HS.out]; exact hX)]
          have HRR := Lib.hid hrr; clear hrr
          go_wp2
          go_ret2
          exact ⟨by rw [HRR.out]; rfl, by first | exact drew2 _ _ _ | exact ⟨_, rfl⟩⟩
        · have hX' : decide (X > 65536) = false := by simpa using hX
          have hrr : r = (joinP s ByteArray.empty 0 es, 0) := by
            rw [HR.out, applyP, if_neg (by rw [← HK.out]; simp), if_neg (by rw [HS.out]; exact hX)]
          have HRR := Lib.hid hrr; clear hrr
          obtain ⟨N, rfl⟩ := ofNat_of (show 0 ≤ X by omega)
          go_wp2
          go_loopw [9, 10, 11] (fun ov pv i wr => ∃ (k p : Nat) (out : ByteArray), i = .int .i64 k ∧ ov = .string out ∧ pv = .int .i64 (p : Int) ∧ k ≤ n ∧ 
            Hid (joinP s ByteArray.empty 0 es = joinP s out p (es.drop k)) ∧ Hid (sizeP (out.size + (s.size - p)) (es.drop k) = N) ∧ Hid (Chain s.size p (es.drop k)) ∧ ∃ m, wr = w.drewN m) (fun _ _ i _ => n - (intOf i).toNat)
          case atStart => 
            refine ⟨0, 0, ByteArray.empty, rfl, rfl, rfl, by omega, by rfl, hide ?_, HCh, _, rfl⟩
            have := HS.out; simpa using this
          case round =>
            clear HCh HS
            obtain ⟨k, p, out, rfl, rfl, rfl, hk2, hI, hS, hL, m, rfl⟩ := hrel
            by_cases hlt : k < n
            · have hn := HN.out
              have hlt' : k < es.length := by omega
              obtain ⟨ad, rfl, hb, hf, ht, hx⟩ := HE.out.get Same.refl hlt'
              have hL' := hL.out
              have hF : es[k].tx.size ≤ 1000000000 := HF.out _ (List.getElem_mem hlt')
              rw [drop_at hlt'] at hL'
              obtain ⟨l1, l2, l3, l4⟩ := hL'
              obtain ⟨f, ef⟩ := ofNat_of (show 0 ≤ es[k].fr by omega)
              obtain ⟨t, et⟩ := ofNat_of (show 0 ≤ es[k].to by omega)
              obtain ⟨T, eT⟩ : ∃ T, T = es[k].tx := ⟨_, rfl⟩
              rw [ef] at hf l1 l2
              rw [et] at ht l2 l3 l4
              rw [← eT] at hx hF
              have hq := hI.out
              rw [drop_at hlt', joinP, ef, et, ← eT, Int.toNat_natCast, Int.toNat_natCast] at hq
              have hz := hS.out
              rw [drop_at hlt', sizeP, chg, ef, et, ← eT] at hz
              have hg1 := size_ge (x := out.size + (s.size - p) + ((T.size : Int) - (t - f))) l4
              rw [hz] at hg1
              have hex : (s.extract p f).size = f - p := by simp [ByteArray.size_extract]; omega
              have q1 : f ≤ s.size := by omega
              have q2 : p ≤ f := by omega
              have HQ := Lib.hid hq; have HZ := Lib.hid hz; have HL4 := Lib.hid l4
              have HEX := Lib.hid hex
              clear hq hz l4 hI hS hL hn ef et eT hex
              go_wp2
              go_quiet (fail)
              go_wp2
              go_roundw
              case rel => 
                refine ⟨k + 1, t, out ++ s.extract p f ++ T, by go_num, rfl, rfl, by omega, HQ.out, hide ?_, HL4, by first | exact drew2 _ _ _ | exact ⟨_, rfl⟩⟩
                rw [← HZ.out, size_append, size_append, HEX.out]
                congr 1
                omega
              case measure => simp [intOf]; omega
            · have hps : (p : Int) ≤ s.size := hL.out.le
              have hz := hS.out
              rw [List.drop_eq_nil_of_le (by have := HN.out; omega), sizeP] at hz
              have hq := hI.out
              rw [List.drop_eq_nil_of_le (by have := HN.out; omega), joinP] at hq
              have q1 : p ≤ s.size := by omega
              have q4 : out.size + (s.size - p) ≤ 9223372036854775807 := by omega
              have HQ := Lib.hid hq
              clear hq hz hI hS hL
              go_wp2
              go_ret2
              exact ⟨by rw [HRR.out, HQ.out]; rfl, by first | exact drew2 _ _ _ | exact ⟨_, rfl⟩⟩
  · have hrr : r = (ByteArray.empty, k0) := by rw [HR.out, applyP, if_pos (by rw [← HK.out]; exact hk), ← HK.out]
    have HRR := Lib.hid hrr; clear hrr
    have hk' : (k0 == 0) = false := by simpa using hk
    go_enter Try.func14, Try.ntmps14
    go_wp2_with (go_at_call 16; refine (unhide HC).mono ?_; rintro e w' ⟨rfl, m0, rfl⟩)
    go_ret2
    exact ⟨by rw [HRR.out]; rfl, _, rfl⟩
end Go.Proofs.Ytbfgnafpianliaa
