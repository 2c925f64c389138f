/- The law on sizes: the walk. -/
import Derived.Test.YtbfgnafpianliaaLawB
namespace Go.Proofs.Ytbfgnafpianliaa
open Go.RowKit

/-- n bytes, of which the first k are 'a'. -/
def asL (n k : Nat) : List UInt8 := (List.range n).map fun i => if i < k then 97 else 0
def asB (n : Nat) : ByteArray := ⟨(asL n n).toArray⟩
theorem asL_len (n k : Nat) : (asL n k).length = n := by simp [asL]
theorem asB_size (n : Nat) : (asB n).size = n := by
  show (asL n n).toArray.size = n
  simp [asL]
theorem asL_zero (n : Nat) : asL n 0 = List.replicate n 0 := by
  rw [replicate_range]; simp [asL]
theorem RowB.set_ {w : World} {g : Nat} {t : TypeId} {L : List UInt8} (h : RowB w g t L) (i : Nat) (b : UInt8) : RowB (w.setCell ⟨g, i, none⟩ (.int .u8 (b.toNat : Int))) g t (L.set i b) := by
  have := Row.set_ h i (.int .u8 (b.toNat : Int))
  unfold RowB
  rw [Lib.byteCells, List.map_set]
  exact this
theorem asL_step (n k : Nat) : (asL n k).set k 97 = asL n (k + 1) := by
  rw [asL, set_range]
  unfold asL
  apply List.map_congr_left
  intro j hj
  by_cases h : j = k
  · subst h; simp
  · simp only [h, if_false]
    by_cases h2 : j < k
    · rw [if_pos h2, if_pos (by omega)]
    · rw [if_neg h2, if_neg (by omega)]

theorem sizes_law (S M : ByteArray) :
    applyP S [⟨S.size, S.size, M⟩] = if 65536 < S.size + M.size then (ByteArray.empty, 2) else (S ++ M, 0) := by
  have hc : checkP S.size [⟨S.size, S.size, M⟩] = 0 := check_of_chain ⟨by simp, by simp, by simp, Int.le_refl _⟩
  rw [applyP, if_neg (by rw [hc]; simp)]
  have hz : sizeP S.size [⟨S.size, S.size, M⟩] = S.size + M.size := by simp only [sizeP, chg]; omega
  rw [hz]
  by_cases h : 65536 < S.size + M.size
  · rw [if_pos (by omega), if_pos h]
  · rw [if_neg (by omega), if_neg h]
    simp only [joinP, Int.toNat_natCast, empty_append, ext_all]
    have : S.extract S.size S.size = ByteArray.empty := by
      apply bytes_ext
      rw [data_extract, List.drop_of_length_le (by rw [List.length_take, size_data]; omega)]; rfl
    rw [this, append_empty]

def bs10 : ByteArray := ⟨#[98, 98, 98, 98, 98, 98, 98, 98, 98, 98]⟩

set_option maxHeartbeats 1000000 in
theorem Sizes_run (n m : Int) (w : World) : Calls Try.prog 10 #[.int .i64 n, .int .i64 m] w fun e w' => e = .returned (.bool true) ∧ Below w.heap.size w w' := by
  by_cases h1 : n < 65528
  · have g1 : decide (n < 65528) = true := by simpa using h1
    go_enter Try.func10, Try.ntmps10
    go_wp2_with fail
    refine (example_run w).mono ?_; rintro e w' ⟨rfl, hB⟩
    go_wp2_with fail
    go_ret
    exact ⟨rfl, hB⟩
  have g1 : decide (n < 65528) = false := by simpa using h1
  by_cases h2 : 65536 < n
  · have g2 : decide (n > 65536) = true := by simpa using h2
    go_enter Try.func10, Try.ntmps10
    go_wp2_with fail
    refine (example_run w).mono ?_; rintro e w' ⟨rfl, hB⟩
    go_wp2_with fail
    go_ret
    exact ⟨rfl, hB⟩
  have g2 : decide (n > 65536) = false := by simpa using h2
  by_cases h3 : m < 0
  · have g3 : decide (m < 0) = true := by simpa using h3
    go_enter Try.func10, Try.ntmps10
    go_wp2_with fail
    refine (example_run w).mono ?_; rintro e w' ⟨rfl, hB⟩
    go_wp2_with fail
    go_ret
    exact ⟨rfl, hB⟩
  have g3 : decide (m < 0) = false := by simpa using h3
  by_cases h4 : 10 < m
  · have g4 : decide (m > 10) = true := by simpa using h4
    go_enter Try.func10, Try.ntmps10
    go_wp2_with fail
    refine (example_run w).mono ?_; rintro e w' ⟨rfl, hB⟩
    go_wp2_with fail
    go_ret
    exact ⟨rfl, hB⟩
  have g4 : decide (m > 10) = false := by simpa using h4
  obtain ⟨N, rfl⟩ := ofNat_of (show 0 ≤ n by omega)
  obtain ⟨M, rfl⟩ := ofNat_of (show 0 ≤ m by omega)
  have hM : M ≤ 10 := by omega
  have hN : N ≤ 65536 := by omega
  have hmk := fun W => run_make_row' (P := Try.prog) 43 5 (.int .u8 0) 1 Try.underlying43 info5 rfl .i64 .i64 N (by omega) (by omega) W
  obtain ⟨g, hg⟩ : ∃ g, g = w.heap.size := ⟨_, rfl⟩
  have HG := Lib.hid hg
  go_enter Try.func10, Try.ntmps10
  go_wp2_with fail
  obtain ⟨w1, hw1⟩ : ∃ x, x = w.alloc (.cells (madeCells #[.int .u8 0] N) 5) := ⟨_, rfl⟩
  have HR0 := hide (show RowB w1 g 5 (asL N 0) by rw [hg, hw1, asL_zero]; exact RowB.made w 5 N)
  have HB0 := hide (show Below w.heap.size w w1 by rw [hw1]; exact below_al (Below.refl _ _) _)
  rw [← hw1, ← hg]
  clear hw1 hg hmk g1 g2 g3 g4 h1 h2 h3 h4
  go_loopw [6] (fun i wr => ∃ k : Nat, i = .int .i64 k ∧ k ≤ N ∧ Hid (RowB wr g 5 (asL N k)) ∧ Hid (Below w.heap.size w wr)) (fun i _ => N - (intOf i).toNat)
  case atStart => exact ⟨0, rfl, by omega, HR0, HB0⟩
  case round =>
    clear HR0 HB0
    obtain ⟨k, rfl, hk, hR, hB⟩ := hrel
    by_cases hlt : k < N
    · have c1 := hR.out.cell (i := k) (by rw [asL_len]; exact hlt)
      have f1 : wr.frozen? ⟨g, k, none⟩ = false := Row.frozen hR.out k
      go_wp2_with fail
      go_roundw
      case rel =>
        refine ⟨k + 1, by go_num, by omega, hide ?_, hide (hB.out.setCell (by rw [HG.out]; exact Nat.le_refl _) _)⟩
        have := hR.out.set_ k 97
        rw [asL_step] at this
        exact this
      case measure => simp [intOf]; omega
    · obtain rfl : N = k := by omega
      obtain ⟨S, hS⟩ : ∃ S, S = asB N := ⟨_, rfl⟩
      obtain ⟨MB, hMB⟩ : ∃ S, S = bs10.extract 0 M := ⟨_, rfl⟩
      have hSs : S.size = N := by rw [hS]; exact asB_size N
      have hMs : MB.size = M := by rw [hMB, ext_size _ (by show M ≤ 10; exact hM)]; omega
      obtain ⟨wa, rfl⟩ : ∃ wa, wa = wr := ⟨_, rfl⟩
      have hcv : ∀ W : World, RowB W g 5 (asL N N) → (convert 43 9 (.slice (some ⟨g, 0, none⟩) N N)).run Try.prog W = .ok (.string S) W := fun W hW => by
        have := run_convert_bytes_back (P := Try.prog) W 43 9 5 ⟨g, 0, none⟩ N (asL N N) Try.underlying43 Try.underlying5 Try.underlying9 (fun j hj => by rw [add_head]; exact hW.cell hj)
        rw [asL_len] at this
        rw [hS]; exact this
      have HCV := hide hcv
      have hcv1 := hcv wa hR.out
      have hsl : (ByteArray.mk #[98, 98, 98, 98, 98, 98, 98, 98, 98, 98]).extract 0 M = MB := hMB.symm
      have HSS := Lib.hid hSs; have HMS := Lib.hid hMs
      clear hS hMB hcv
      go_wp2_with fail
      obtain ⟨wb, hwb⟩ : ∃ wb, wb = wa.alloc (Obj.cells #[.int .i64 (N : Int), .int .i64 (N : Int), .string MB] 35) := ⟨_, rfl⟩
      have hE : Eds wb wb.heap.size (.slice (some ⟨wa.heap.size, 0, none⟩) 1 1) [⟨N, N, MB⟩] := by
        have := lit_eds wa ⟨N, N, MB⟩
        rw [hwb]; simpa using this
      have HBb := hide (show Below w.heap.size w wb by rw [hwb]; exact below_al hB.out _)
      have HRb := hide (show RowB wb g 5 (asL N N) by rw [hwb]; exact hR.out.alloc _)
      have hlaw := sizes_law S MB
      rw [HSS.out, HMS.out] at hlaw
      have HA := hide (Apply_run S _ _ wb hE ⟨by simp, fun e he => by simp at he; subst he; show MB.size ≤ _; rw [HMS.out]; omega⟩ (by rw [HSS.out]; omega))
      rw [hlaw] at HA
      rw [← hwb]
      have hgl := hR.out.lt
      have hwl : wb.heap.size = wa.heap.size + 1 := by rw [hwb]; simp
      clear hwb hE hR hB hcv1 hlaw
      have e0 : IntKind.i64.wrap ((N : Int) + M) = (N : Int) + M := IntWalk.i64_in _ (by omega)
      by_cases hbig : 65536 < N + M
      · rw [if_pos hbig] at HA
        have hb1 : decide ((N : Int) + M > 65536) = true := by simp; omega
        have hem : (ByteArray.empty.toList == []) = true := by rw [Lib.toList_data]; rfl
        refine (unhide HA).mono ?_; rintro e w2 ⟨rfl, hB2⟩
        have HB2 := hide (HBb.out.trans (hB2.mono HBb.out.size))
        have HX := hide (example_run w2)
        clear hB2 HA
        go_wp2_with fail
        refine (unhide HX).mono ?_; rintro e w3 ⟨rfl, hB3⟩
        have HB3 := hide (HB2.out.trans (hB3.mono HB2.out.size))
        clear hB3
        go_wp2_with fail
        go_ret
        exact ⟨rfl, HB3.out⟩
      · rw [if_neg hbig] at HA
        have hb1 : decide ((N : Int) + M > 65536) = false := by simp; omega
        refine (unhide HA).mono ?_; rintro e w2 ⟨rfl, hB2⟩
        have hR2 : RowB w2 g 5 (asL N N) := Row.same HRb.out (Same.of_below hB2) (by omega)
        have hcv2 := HCV.out w2 hR2
        have HB2 := hide (HBb.out.trans (hB2.mono HBb.out.size))
        have HX := hide (example_run w2)
        have hll : S.size + MB.size ≤ 9223372036854775807 := by rw [HSS.out, HMS.out]; omega
        have hss : ((S ++ MB).toList == (S ++ MB).toList) = true := by simp
        clear hB2 HA hR2
        go_wp2_with fail
        refine (unhide HX).mono ?_; rintro e w3 ⟨rfl, hB3⟩
        have HB3 := hide (HB2.out.trans (hB3.mono HB2.out.size))
        clear hB3
        go_wp2_with fail
        go_ret
        exact ⟨rfl, HB3.out⟩
end Go.Proofs.Ytbfgnafpianliaa
