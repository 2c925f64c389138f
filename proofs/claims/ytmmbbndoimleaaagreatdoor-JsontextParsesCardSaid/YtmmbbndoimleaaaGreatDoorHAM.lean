/- short, line, quote of the reference; number of the reference's reader; The walk of number of the reference's reader; The reference's reader: values in memory; what they are, plain. -/
import Derived.Test.YtmmbbndoimleaaaGreatDoorHAL
import Derived.Test.YtmmbbndoimleaaaGreatDoorHAE
import Derived.Test.YtmmbbndoimleaaaGreatDoorHAF
import Derived.Test.YtmmbbndoimleaaaGreatDoorHAH
import Derived.Test.YtmmbbndoimleaaaGreatDoorHAI
import Derived.Test.YtmmbbndoimleaaaGreatDoorHAJ

/- short, line, quote of the reference. -/
namespace Go.Proofs.YtmmbbndoimleaaaGreatDoor
open Go.RowKit

set_option maxHeartbeats 1000000 in
theorem rshort_run (c : Nat) (w : World) :
    Calls Tryz.prog 62 #[.int .u8 c] w fun e w' => e = .returned (.int .u8 (jshN c)) ∧ w = w' := by
  by_cases h34 : c = 34
  · subst h34
    go_enter Tryz.func62, Tryz.ntmps62
    go_wp2_with fail
    go_ret
    exact ⟨rfl, rfl⟩
  by_cases h92 : c = 92
  · subst h92
    go_enter Tryz.func62, Tryz.ntmps62
    go_wp2_with fail
    go_ret
    exact ⟨rfl, rfl⟩
  by_cases h8 : c = 8
  · subst h8
    go_enter Tryz.func62, Tryz.ntmps62
    go_wp2_with fail
    go_ret
    exact ⟨rfl, rfl⟩
  by_cases h9 : c = 9
  · subst h9
    go_enter Tryz.func62, Tryz.ntmps62
    go_wp2_with fail
    go_ret
    exact ⟨rfl, rfl⟩
  by_cases h10 : c = 10
  · subst h10
    go_enter Tryz.func62, Tryz.ntmps62
    go_wp2_with fail
    go_ret
    exact ⟨rfl, rfl⟩
  by_cases h12 : c = 12
  · subst h12
    go_enter Tryz.func62, Tryz.ntmps62
    go_wp2_with fail
    go_ret
    exact ⟨rfl, rfl⟩
  by_cases h13 : c = 13
  · subst h13
    go_enter Tryz.func62, Tryz.ntmps62
    go_wp2_with fail
    go_ret
    exact ⟨rfl, rfl⟩
  have e : jshN c = 0 := by
    unfold jshN
    rw [if_neg (by omega), if_neg h8, if_neg h9, if_neg h10, if_neg h12, if_neg h13]
  rw [e]
  have g1 : ((c : Int) == 34) = false := by simp; omega
  have g2 : ((c : Int) == 92) = false := by simp; omega
  have g3 : ((c : Int) == 8) = false := by simp; omega
  have g4 : ((c : Int) == 9) = false := by simp; omega
  have g5 : ((c : Int) == 10) = false := by simp; omega
  have g6 : ((c : Int) == 12) = false := by simp; omega
  have g7 : ((c : Int) == 13) = false := by simp; omega
  go_enter Tryz.func62, Tryz.ntmps62
  go_wp2_with fail
  go_ret
  exact ⟨rfl, rfl⟩

theorem tabs_push (i : Nat) : (⟨(10 :: List.replicate i 9).toArray⟩ : ByteArray) ++ ⟨#[9]⟩ = ⟨(10 :: List.replicate (i + 1) 9).toArray⟩ := by
  apply ByteArray.ext
  rw [ByteArray.data_append]
  apply Array.toList_inj.1
  rw [List.replicate_succ']
  simp
theorem tabs_size (i : Nat) : (⟨(10 :: List.replicate i 9).toArray⟩ : ByteArray).size = i + 1 := by show (10 :: List.replicate i 9 : List UInt8).toArray.size = _; simp
set_option maxHeartbeats 1000000 in
theorem rline_false (lv : Nat) (w : World) :
    Calls Tryz.prog 34 #[.int .i64 (-1)] w fun e w' => e = .returned (.string (lineB false lv)) ∧ Below w.heap.size w w' := by
  go_enter Tryz.func34, Tryz.ntmps34
  go_wp2_with fail
  go_ret
  exact ⟨rfl, Below.refl _ _⟩
set_option maxHeartbeats 1000000 in
theorem rline_true (lv : Nat) (hlv : lv ≤ 1000) (w : World) :
    Calls Tryz.prog 34 #[.int .i64 lv] w fun e w' => e = .returned (.string (lineB true lv)) ∧ Below w.heap.size w w' := by
  have g0 : decide ((lv : Int) < 0) = false := by simp
  have HB0 := hide (Below.refl w.heap.size w)
  go_enter Tryz.func34, Tryz.ntmps34
  go_wp2_with fail
  go_loopw [3, 4] (fun sv iv wr => ∃ (i : Nat) (T : ByteArray), iv = .int .i64 i ∧ sv = .string T ∧ i ≤ lv ∧ T.size = i + 1 ∧ Hid (T = ⟨(10 :: List.replicate i 9).toArray⟩) ∧ wr = w) (fun _ iv _ => lv - (intOf iv).toNat)
  case atStart => exact ⟨0, ⟨#[10]⟩, rfl, rfl, Nat.zero_le _, rfl, hide rfl, rfl⟩
  case round =>
    obtain ⟨i, T, rfl, rfl, hi, hT, hI, rfl⟩ := hrel
    by_cases hlt : i < lv
    · have HI2 := hide (show T ++ ⟨#[9]⟩ = ⟨(10 :: List.replicate (i + 1) 9).toArray⟩ by rw [hI.out, tabs_push])
      have hs2 : (T ++ ⟨#[9]⟩ : ByteArray).size = i + 1 + 1 := by rw [HI2.out, tabs_size]
      have HS2 := Lib.hid hs2
      clear hs2 hI
      go_wp2_with fail
      go_roundw
      case rel => exact ⟨i + 1, _, by go_num, rfl, by omega, HS2.out, HI2, by first | trivial | rfl⟩
      case measure => simp [intOf]; omega
    · obtain rfl : i = lv := by omega
      go_wp2_with fail
      go_ret
      exact ⟨ret_str hI.out, HB0.out⟩

/-! quote -/
theorem conv_u2 (c d : Nat) (hc : c < 256) (hd : d < 256) (W : World) : (convert 73 9 (.slice (some ⟨W.heap.size, 0, none⟩) 2 2)).run Tryz.prog (W.alloc (.cells #[.int .u8 (c : Int), .int .u8 (d : Int)] 5)) = .ok (.string ⟨#[UInt8.ofNat c, UInt8.ofNat d]⟩) (W.alloc (.cells #[.int .u8 (c : Int), .int .u8 (d : Int)] 5)) := by
  have h : (W.alloc (.cells #[.int .u8 (c : Int), .int .u8 (d : Int)] 5)).ownsRow W.heap.size 5 1 (.slice (some ⟨W.heap.size, 0, none⟩) 2 2) 2 (byL [UInt8.ofNat c, UInt8.ofNat d]) :=
    ⟨rfl, .inr ⟨W.heap.size, 2, #[Value.int .u8 (c : Int), Value.int .u8 (d : Int)], rfl, Nat.le_refl _, heap_alloc_new W _, by omega, by simp [maxLen], rfl, by unfold byL; simp; omega⟩⟩
  exact conv_row (b := W.heap.size) (l := [UInt8.ofNat c, UInt8.ofNat d]) h
theorem hexN_lt (h : Nat) : (hexN h).toNat < 256 := (hexN h).toNat_lt
/-- What stands ahead of a place in a quoted text. -/
def rqp (S : ByteArray) (i : Nat) : ByteArray := ⟨(34 :: jqS (S.data.toList.take i)).toArray⟩
theorem rqp_size (S : ByteArray) (i : Nat) : (rqp S i).size ≤ 1 + 6 * i := by
  have h := jqS_len (S.data.toList.take i)
  have h2 : (S.data.toList.take i).length ≤ i := by rw [List.length_take]; omega
  show (34 :: jqS (S.data.toList.take i)).toArray.size ≤ _
  rw [List.size_toArray, List.length_cons]; omega
theorem rqp_push {S : ByteArray} {i : Nat} (h : i < S.size) : rqp S (i + 1) = rqp S i ++ ⟨(jqL (S[i]).toNat).toArray⟩ := by
  have hcl : S.data.toList[i]? = some S[i] := by
    rw [List.getElem?_eq_getElem (by rw [Array.length_toList]; exact h)]; rfl
  unfold rqp
  apply ByteArray.ext
  rw [ByteArray.data_append]
  apply Array.toList_inj.1
  rw [List.take_add_one, hcl, jqS_append]
  simp [jqS]
theorem rqp_all (S : ByteArray) : rqp S S.size ++ ⟨#[34]⟩ = jqB S := by
  unfold rqp jqB
  apply ByteArray.ext
  rw [ByteArray.data_append]
  apply Array.toList_inj.1
  have : S.data.toList.take S.size = S.data.toList := List.take_of_length_le (by rw [Array.length_toList]; exact Nat.le_refl _)
  rw [this]
  simp
theorem rba_hex (T : ByteArray) (a b : UInt8) : (T ++ ⟨#[92, 117, 48, 48]⟩) ++ ⟨#[a, b]⟩ = T ++ ⟨[92, 117, 48, 48, a, b].toArray⟩ := by rw [ByteArray.append_assoc]; rfl

set_option maxRecDepth 20000 in
set_option maxHeartbeats 4000000 in
theorem rquote_run (S : ByteArray) (hS : S.size ≤ 166700000) (w : World) :
    Calls Tryz.prog 32 #[.string S] w fun e w' => e = .returned (.string (jqB S)) ∧ Below w.heap.size w w' := by
  obtain ⟨N, hN⟩ : ∃ N, N = S.size := ⟨_, rfl⟩
  have HNN := Lib.hid hN
  have hN1 : N ≤ 166700000 := by omega
  have HSH := hide fun c W => rshort_run c W
  have HB0 := hide (Below.refl w.heap.size w)
  have HFIN := hide (show rqp S N ++ ⟨#[34]⟩ = jqB S by rw [hN]; exact rqp_all S)
  have hNI : (S.size : Int) = (N : Int) := by omega
  clear hS
  go_enter Tryz.func32, Tryz.ntmps32
  go_wp2_with fail
  go_loopw [4, 5] (fun ov iv wr => ∃ (i : Nat) (T : ByteArray), iv = .int .i64 i ∧ ov = .string T ∧ i ≤ N ∧ T.size ≤ 1 + 6 * i ∧ Hid (T = rqp S i) ∧ Hid (Below w.heap.size w wr)) (fun _ iv _ => N - (intOf iv).toNat)
  case atStart => exact ⟨0, ⟨#[34]⟩, rfl, rfl, Nat.zero_le _, by decide, hide rfl, HB0⟩
  case round =>
    clear HB0
    obtain ⟨i, T, rfl, rfl, hi, hT, hI, hB⟩ := hrel
    by_cases hlt : i < N
    · have hlt' : i < S.size := by rw [← HNN.out]; exact hlt
      obtain ⟨c, hc⟩ : ∃ c, c = (S[i]).toNat := ⟨_, rfl⟩
      have hc2 : c < 256 := by rw [hc]; exact (S[i]).toNat_lt
      have hS2 : (S[i]).toNat = c := hc.symm
      have HXX := hide (show T ++ ⟨(jqL c).toArray⟩ = rqp S (i + 1) by rw [rqp_push hlt', hI.out, hc])
      have HQZ := hide (rqp_size S (i + 1))
      obtain ⟨q, hq⟩ : ∃ q, q = jshN c := ⟨_, rfl⟩
      have hq2 : q < 256 := by rw [hq]; exact jsh_lt c hc2
      have HQ := Lib.hid hq
      have HS1 := hide fun W => HSH.out c W
      rw [← hq] at HS1
      have hov1 : ¬ 9223372036854775807 < T.size + 2 := by omega
      have hov2 : ¬ 9223372036854775807 < T.size + 1 := by omega
      have hov4 : ¬ 9223372036854775807 < T.size + 4 := by omega
      have hov6 : ¬ 9223372036854775807 < T.size + 4 + 2 := by omega
      clear hq hc hI
      by_cases hq0 : q = 0
      · subst hq0
        by_cases h126 : c < 32 ∨ 126 < c
        · have HXL := hide (show jqL c = [92, 117, 48, 48, hexN (c / 16), hexN (c % 16)] by unfold jqL; rw [← HQ.out, if_neg (by simp), if_pos h126])
          obtain ⟨hi2, hhi⟩ : ∃ hi, hi = c / 16 := ⟨_, rfl⟩
          obtain ⟨lo, hlo⟩ : ∃ hi, hi = c % 16 := ⟨_, rfl⟩
          have e1 : (c : Int) / 16 = (hi2 : Int) := by omega
          have e2 : (c : Int).tmod 16 = (lo : Int) := by rw [Int.tmod_eq_emod_of_nonneg (by omega)]; omega
          have l1 : hi2 < 16 := by omega
          have l2 : lo < 16 := by omega
          have w1 : IntKind.u8.wrap (hi2 : Int) = (hi2 : Int) := by rw [IntKind.wrap_u8]; omega
          have w2 : IntKind.u8.wrap (lo : Int) = (lo : Int) := by rw [IntKind.wrap_u8]; omega
          have hs1 := fun W => byte_idx hi2 l1 .u8 W
          have hs2 := fun W => byte_idx lo l2 .u8 W
          rw [← hhi, ← hlo] at HXL
          have hg : (decide ((c : Int) < 32) = true ∧ True) ∨ (decide ((c : Int) < 32) = false ∧ decide ((c : Int) > 126) = true) := by
            rcases h126 with h | h
            · exact .inl ⟨by simp; omega, trivial⟩
            · exact .inr ⟨by simp; omega, by simp; omega⟩
          clear hhi hlo h126
          rcases hg with ⟨g6, g7⟩ | ⟨g6, g7⟩
          all_goals
            go_wp2_with fail
            refine (HS1.out _).mono ?_; rintro e w1 ⟨rfl, rfl⟩
            go_upto_region 11 with fail
            refine region_two 12 (fun _ => True) (by kernel_rfl) (by kernel_rfl) trivial (fun hH => ?_)
            obtain ⟨wd, hwd⟩ : ∃ W, W = wr.drew := ⟨_, rfl⟩
            have HB1 := hide (show Below w.heap.size w wd by rw [hwd]; exact hB.out.drew)
            have hbs1 := HB1.out.size
            rw [← hwd]
            clear hwd hB
            simp only [List.take_succ_cons, List.take_zero]
            refine takeH (i := 0) (v := ?_) rfl (by kernel_rfl) (by kernel_rfl) (by kernel_rfl) (fun _ _ _ h => h) (Or.inl ⟨by rfl, ?_⟩) hH ?_
            rotate_left
            · (intro w hSw; (try dsimp only at hSw); go_simp; try with_reducible rfl)
            simp only [Act.put, List.setIfInBounds_toArray, List.set_cons_zero, List.set_cons_succ]
            refine takeH (i := 1) (v := ?_) rfl (by kernel_rfl) (by kernel_rfl) (by kernel_rfl) (fun _ _ _ h => h) (Or.inl ⟨by rfl, ?_⟩) hH ?_
            rotate_left
            · (intro w hSw; (try dsimp only at hSw); go_simp; try with_reducible rfl)
            simp only [Act.put, List.setIfInBounds_toArray, List.set_cons_zero, List.set_cons_succ]
            refine takeH (i := 2) (v := ?_) rfl (by kernel_rfl) (by kernel_rfl) (by kernel_rfl) (fun _ _ _ h => h) (Or.inl ⟨by rfl, ?_⟩) hH ?_
            rotate_left
            · (intro w hSw; (try dsimp only at hSw); go_simp; try with_reducible rfl)
            simp only [Act.put, List.setIfInBounds_toArray, List.set_cons_zero, List.set_cons_succ]
            refine takeH (i := 3) (v := ?_) rfl (by kernel_rfl) (by kernel_rfl) (by kernel_rfl) (fun _ _ _ h => h) (Or.inl ⟨by rfl, ?_⟩) hH ?_
            rotate_left
            · (intro w hSw; (try dsimp only at hSw); go_simp; try with_reducible rfl)
            simp only [Act.put, List.setIfInBounds_toArray, List.set_cons_zero, List.set_cons_succ]
            refine takeH (i := 4) (v := ?_) rfl (by kernel_rfl) (by kernel_rfl) (by kernel_rfl) (fun _ _ _ h => h) (Or.inl ⟨by rfl, ?_⟩) hH ?_
            rotate_left
            · (intro w hSw; (try dsimp only at hSw); go_simp; try with_reducible rfl)
            simp only [Act.put, List.setIfInBounds_toArray, List.set_cons_zero, List.set_cons_succ]
            refine takeH (i := 5) (v := ?_) rfl (by kernel_rfl) (by kernel_rfl) (by kernel_rfl) (fun _ _ _ h => h) (Or.inl ⟨by rfl, ?_⟩) hH ?_
            rotate_left
            · (intro w hSw; (try dsimp only at hSw); go_simp; try with_reducible rfl)
            simp only [Act.put, List.setIfInBounds_toArray, List.set_cons_zero, List.set_cons_succ]
            refine takeH (i := 6) (v := ?_) rfl (by kernel_rfl) (by kernel_rfl) (by kernel_rfl) (fun _ _ _ h => h) (Or.inl ⟨by rfl, ?_⟩) hH ?_
            rotate_left
            · (intro w hSw; (try dsimp only at hSw); go_simp; try with_reducible rfl)
            simp only [Act.put, List.setIfInBounds_toArray, List.set_cons_zero, List.set_cons_succ]
            refine takeH (i := 7) (v := ?_) rfl (by kernel_rfl) (by kernel_rfl) (by kernel_rfl) (fun _ _ _ h => h) (Or.inl ⟨by rfl, ?_⟩) hH ?_
            rotate_left
            · (intro w hSw; (try dsimp only at hSw); go_simp; try with_reducible rfl)
            simp only [Act.put, List.setIfInBounds_toArray, List.set_cons_zero, List.set_cons_succ]
            refine takeH (i := 8) (v := ?_) rfl (by kernel_rfl) (by kernel_rfl) (by kernel_rfl) (fun _ _ _ h => h) (Or.inl ⟨by rfl, ?_⟩) hH ?_
            rotate_left
            · (intro w hSw; (try dsimp only at hSw); go_simp; try with_reducible rfl)
            simp only [Act.put, List.setIfInBounds_toArray, List.set_cons_zero, List.set_cons_succ]
            refine takeH (i := 9) (v := ?_) rfl (by kernel_rfl) (by kernel_rfl) (by kernel_rfl) (fun _ _ _ h => h) (Or.inl ⟨by rfl, ?_⟩) hH ?_
            rotate_left
            · (intro w hSw; (try dsimp only at hSw); go_simp; try with_reducible rfl)
            simp only [Act.put, List.setIfInBounds_toArray, List.set_cons_zero, List.set_cons_succ]
            refine oneH (i := 10) rfl (by kernel_rfl) (fun K hK => ?_)
            go_simp
            have hcv := conv_u2 (hexN hi2).toNat (hexN lo).toNat (hexN_lt _) (hexN_lt _) wd
            rw [UInt8.ofNat_toNat, UInt8.ofNat_toNat] at hcv
            have HBe := hide (HB1.out.alloc hbs1 (.cells #[.int .u8 ((hexN hi2).toNat : Int), .int .u8 ((hexN lo).toNat : Int)] 5))
            obtain ⟨we, hwe⟩ : ∃ W, W = wd.alloc (.cells #[.int .u8 ((hexN hi2).toNat : Int), .int .u8 ((hexN lo).toNat : Int)] 5) := ⟨_, rfl⟩
            obtain ⟨ge, hge⟩ : ∃ b, b = wd.heap.size := ⟨_, rfl⟩
            rw [← hwe] at HBe hcv ⊢
            rw [← hge] at hcv ⊢
            clear hwe hge
            refine hK.out _ _ trivial (fun hH => ?_)
            clear hK K
            refine oneH (i := 11) rfl (by kernel_rfl) (fun K hK => ?_)
            go_simp
            refine hK.out _ _ trivial (fun hH => ?_)
            clear hK K
            refine wpAnyH_done (by kernel_rfl) ?_ _
            unfold TailPost
            simp only [List.drop_succ_cons, List.drop_zero]
            clear hs1 hs2 hH hcv
            have HTT := hide (show (T ++ ⟨#[92, 117, 48, 48]⟩) ++ ⟨#[hexN hi2, hexN lo]⟩ = rqp S (i + 1) by rw [rba_hex, ← HXL.out]; exact HXX.out)
            have hov3 : (T ++ ⟨#[92, 117, 48, 48]⟩ : ByteArray).size = T.size + 4 := by rw [bsize_append]; rfl
            go_wp2_with fail
            go_roundw
            case rel => exact ⟨i + 1, _, by go_num, rfl, by omega, by rw [HTT.out]; exact HQZ.out, HTT, HBe⟩
            case measure => simp [intOf]; omega
        · have HXL := hide (show jqL c = [UInt8.ofNat c] by unfold jqL; rw [← HQ.out, if_neg (by simp), if_neg h126])
          have g6 : decide ((c : Int) < 32) = false := by simp; omega
          have g7 : decide ((c : Int) > 126) = false := by simp; omega
          have HTT := hide (show T ++ ⟨#[UInt8.ofNat c]⟩ = rqp S (i + 1) by rw [← HXX.out, HXL.out])
          clear h126
          go_wp2_with fail
          refine (HS1.out _).mono ?_; rintro e w1 ⟨rfl, rfl⟩
          have hcv := conv_u1 c hc2 wr
          have HBe := hide (hB.out.alloc hB.out.size (.cells #[.int .u8 (c : Int)] 5))
          clear hB
          go_wp2_with fail
          go_roundw
          case rel => exact ⟨i + 1, _, by go_num, rfl, by omega, by rw [HTT.out]; exact HQZ.out, HTT, HBe⟩
          case measure => simp [intOf]; omega
      · have HXL := hide (show jqL c = [92, UInt8.ofNat q] by unfold jqL; rw [← HQ.out, if_pos hq0])
        have g5 : ((q : Int) != 0) = true := by simp; omega
        have HTT := hide (show T ++ ⟨#[92, UInt8.ofNat q]⟩ = rqp S (i + 1) by rw [← HXX.out, HXL.out])
        go_wp2_with fail
        refine (HS1.out _).mono ?_; rintro e w1 ⟨rfl, rfl⟩
        go_wp2_with fail
        refine (HS1.out _).mono ?_; rintro e w1 ⟨rfl, rfl⟩
        have hcv : (convert 73 9 (.slice (some ⟨wr.heap.size, 0, none⟩) 2 2)).run Tryz.prog (wr.alloc (.cells #[.int .u8 92, .int .u8 (q : Int)] 5)) = .ok (.string ⟨#[92, UInt8.ofNat q]⟩) (wr.alloc (.cells #[.int .u8 92, .int .u8 (q : Int)] 5)) := conv_u2 92 q (by decide) hq2 wr
        have HBe := hide (hB.out.alloc hB.out.size (.cells #[.int .u8 92, .int .u8 (q : Int)] 5))
        clear hB
        go_wp2_with fail
        go_roundw
        case rel => exact ⟨i + 1, _, by go_num, rfl, by omega, by rw [HTT.out]; exact HQZ.out, HTT, HBe⟩
        case measure => simp [intOf]; omega
    · obtain rfl : i = N := by omega
      have hov1 : ¬ 9223372036854775807 < T.size + 1 := by omega
      go_wp2_with fail
      go_ret
      exact ⟨ret_str (by rw [hI.out]; exact HFIN.out), hB.out⟩
end Go.Proofs.YtmmbbndoimleaaaGreatDoor

/- number of the reference's reader. -/
namespace Go.Proofs.YtmmbbndoimleaaaGreatDoor
open Go.RowKit

abbrev ZV : List Value := [.int .i64 0, .int .i64 0, .string ⟨#[]⟩, .slice none 0 0, .slice none 0 0]
/-- The reader, and a block of a result ahead of it. -/
def NSt (w : World) (g g2 : Nat) (S : ByteArray) (p : Nat) (f : Flt) (D : List Value) (W : World) : Prop :=
  (g < w.heap.size ∧ w.heap.size = g2 ∧ g2 < W.heap.size) ∧ Rdr W g S p f ∧ Px g w W ∧ Row W g2 25 D
section
variable {w W W' : World} {g g2 p p' : Nat} {S : ByteArray} {f f' : Flt} {D : List Value}
theorem NSt.px (h : NSt w g g2 S p f D W) (hX : Px g W W') (hR : Rdr W' g S p' f') : NSt w g g2 S p' f' D W' := by
  obtain ⟨⟨h1, h2, h3⟩, h4, h5, h6⟩ := h
  exact ⟨⟨h1, h2, Nat.lt_of_lt_of_le h3 hX.size⟩, hR, h5.trans hX, (hX.2 g2 h3 (by omega)).trans h6⟩
theorem NSt.below (h : NSt w g g2 S p f D W) (hB : Below W.heap.size W W') : NSt w g g2 S p f D W' := h.px (Px.of_below hB) (h.2.1.below hB)
theorem px_set5 (h : Px g w W) (hg : w.heap.size ≤ g2) (a b c d e : Value) : Px g w (set5 W g2 a b c d e) :=
  ((((h.setFar (p := ⟨g2, 0, none⟩) hg a).setFar (p := ⟨g2, 1, none⟩) hg b).setFar (p := ⟨g2, 2, none⟩) hg c).setFar (p := ⟨g2, 3, none⟩) hg d).setFar (p := ⟨g2, 4, none⟩) hg e
theorem rdr_far5 (h : Rdr W g S p f) (hne : g ≠ g2) (a b c d e : Value) : Rdr (set5 W g2 a b c d e) g S p f := row_far5 h hne a b c d e
end
/-- What number hands back. -/
def NumPost (g : Nat) (S : ByteArray) (w : World) (r : Except Flt (Int × Nat)) (e : Ending) (w' : World) : Prop :=
  ∃ (k n : Int) (p : Nat) (f : Flt), e = .returned (.agg #[.int .i64 k, .int .i64 n, .string ⟨#[]⟩, .slice none 0 0, .slice none 0 0]) ∧ p ≤ S.size ∧ Rdr w' g S p f ∧ Px g w w' ∧
    (f = (0, 0) ∧ k = 3 ∧ r = .ok (n, p) ∨ f.1 ≠ 0 ∧ r = .error f)
/-- Behind the whole digits, and behind the places. -/
def NumW (S : ByteArray) (i a p : Nat) (f : Flt) (wh : ByteArray) : Prop :=
  (∀ c ∈ lst wh, digC c) ∧ wh.size ≤ S.size + 1 ∧ p ≤ S.size ∧ (f = (0, 0) ∧ digB (nx S a) = true ∧ p = numJ S a ∧ Sits S a (lst wh) ∧ wh.size = p - a ∨ f.1 ≠ 0 ∧ numE S i = .error f)
def NumP (S : ByteArray) (i p : Nat) (f : Flt) (ng : Bool) (wh pl : ByteArray) : Prop :=
  (∀ c ∈ lst wh, digC c) ∧ (∀ c ∈ lst pl, digC c) ∧ wh.size ≤ S.size + 1 ∧ pl.size ≤ S.size ∧ p ≤ S.size ∧ (f = (0, 0) ∧ numE S i = tailE (tailN i ng wh pl) p ∨ f.1 ≠ 0 ∧ numE S i = .error f)
theorem numW_zero {S : ByteArray} {i a : Nat} (h : nx S a = 48) : NumW S i a (a + 1) (0, 0) ⟨#[48]⟩ := by
  have hin := nx_in (S := S) (i := a) (by rw [h]; decide)
  refine ⟨fun c hc => ?_, by show 1 ≤ _; omega, by omega, .inl ⟨rfl, by rw [h]; rfl, by unfold numJ; rw [if_pos h], ⟨⟨by rw [h]; rfl, hin⟩, trivial⟩, by show 1 = _; omega⟩⟩
  have : c = 48 := by simpa [lst] using hc
  subst this; exact ⟨by decide, by decide⟩
theorem numW_dig {S : ByteArray} {i a : Nat} (h : nx S a ≠ 48) (hd : digB (nx S a) = true) : NumW S i a (dge S a) (0, 0) (S.extract a (dge S a)) := by
  obtain ⟨h1, h2, h3, h4, h5⟩ := dig_ext hd
  exact ⟨h5, by omega, h4, .inl ⟨rfl, hd, by unfold numJ; rw [if_neg h], h1, h2⟩⟩
theorem numW_none {S : ByteArray} {i a : Nat} (ha : a = numI S i) (has : a ≤ S.size) (hd : digB (nx S a) = false) : NumW S i a a (19, (a : Int)) ByteArray.empty :=
  ⟨fun c hc => (by cases hc), by show 0 ≤ _; omega, has, .inr ⟨by show (19 : Int) ≠ 0; decide, by rw [numE_k, ← ha, if_pos hd]⟩⟩
theorem numP_bad {S : ByteArray} {i a p : Nat} {f : Flt} {ng : Bool} {wh : ByteArray} (h : NumW S i a p f wh) (hf : f.1 ≠ 0) : NumP S i p f ng wh ⟨#[]⟩ := by
  obtain ⟨h1, h2, h3, h4⟩ := h
  refine ⟨h1, fun c hc => (by cases hc), h2, by show 0 ≤ _; omega, h3, .inr ⟨hf, ?_⟩⟩
  rcases h4 with ⟨e, _⟩ | ⟨_, e⟩
  · rw [e] at hf; exact absurd rfl hf
  · exact e
theorem numP_none {S : ByteArray} {i a p : Nat} {wh : ByteArray} (ha : a = numI S i) (h : NumW S i a p (0, 0) wh) (hx : nx S p ≠ 46) : NumP S i p (0, 0) (nx S i == 45) wh ⟨#[]⟩ := by
  obtain ⟨h1, h2, h3, h4⟩ := h
  refine ⟨h1, fun c hc => (by cases hc), h2, by show 0 ≤ _; omega, h3, .inl ⟨rfl, ?_⟩⟩
  rcases h4 with ⟨_, e1, e2, e3, e4⟩ | ⟨e, _⟩
  · exact num_tail ha e1 e2 e3 e4 h1 (.inr ⟨hx, rfl, rfl⟩)
  · exact absurd rfl e
theorem numP_dig {S : ByteArray} {i a p : Nat} {wh : ByteArray} (ha : a = numI S i) (h : NumW S i a p (0, 0) wh) (hx : nx S p = 46) (hd : digB (nx S (p + 1)) = true) : NumP S i (dge S (p + 1)) (0, 0) (nx S i == 45) wh (S.extract (p + 1) (dge S (p + 1))) := by
  obtain ⟨h1, h2, h3, h4⟩ := h
  obtain ⟨g1, g2, g3, g4, g5⟩ := dig_ext hd
  refine ⟨h1, g5, h2, by omega, g4, .inl ⟨rfl, ?_⟩⟩
  rcases h4 with ⟨_, e1, e2, e3, e4⟩ | ⟨e, _⟩
  · exact num_tail ha e1 e2 e3 e4 h1 (.inl ⟨hx, hd, g1, by omega, by omega, by unfold numZ; rw [if_pos hx]⟩)
  · exact absurd rfl e
theorem numP_dot {S : ByteArray} {i a p : Nat} {wh : ByteArray} (ha : a = numI S i) (h : NumW S i a p (0, 0) wh) (hx : nx S p = 46) (hd : digB (nx S (p + 1)) = false) : NumP S i (p + 1) (19, ((p + 1 : Nat) : Int)) (nx S i == 45) wh ByteArray.empty := by
  obtain ⟨h1, h2, h3, h4⟩ := h
  have hin := nx_in (S := S) (i := p) (by rw [hx]; decide)
  refine ⟨h1, fun c hc => (by cases hc), h2, by show 0 ≤ _; omega, by omega, .inr ⟨by show (19 : Int) ≠ 0; decide, ?_⟩⟩
  rcases h4 with ⟨_, e1, e2, e3, e4⟩ | ⟨e, _⟩
  · rw [numE_k, ← ha, if_neg (by rw [e1]; simp), ← e2, if_pos ⟨hx, hd⟩]
  · exact absurd rfl e
/-- Zeros behind the places. -/
theorem pad_push {pl P : ByteArray} {k : Nat} (h : lst P = lst pl ++ List.replicate k 48) : lst (P ++ ⟨#[48]⟩) = lst pl ++ List.replicate (k + 1) 48 := by
  rw [lst_append, h, List.append_assoc, List.replicate_succ']; rfl
theorem all_dig {wh pl P : ByteArray} {k : Nat} (h1 : ∀ c ∈ lst wh, digC c) (h2 : ∀ c ∈ lst pl, digC c) (h : lst P = lst pl ++ List.replicate k 48) : ∀ c ∈ lst (wh ++ P), digC c := fun c hc => by
  rw [lst_append, h] at hc
  rcases List.mem_append.1 hc with hc | hc
  · exact h1 c hc
  rcases List.mem_append.1 hc with hc | hc
  · exact h2 c hc
  · rw [(List.mem_replicate.1 hc).2]; exact ⟨by decide, by decide⟩
theorem take_dig {W : ByteArray} (h : ∀ c ∈ lst W, digC c) {k : Nat} (hk : k < W.size) : digC (UInt8.ofNat (W[k]).toNat) ∧ valD ((lst W).take (k + 1)) = 10 * valD ((lst W).take k) + ((W[k]).toNat - 48) := by
  have hl : k < (lst W).length := by rw [lst_len]; exact hk
  refine ⟨?_, ?_⟩
  · rw [UInt8.ofNat_toNat]
    have := h _ (List.getElem_mem hl)
    exact this
  · rw [List.take_add_one, List.getElem?_eq_getElem hl]
    show valD ((lst W).take k ++ [(lst W)[k]]) = _
    rw [valD_push]
    rfl
theorem valD_bound {W : ByteArray} (h : ∀ c ∈ lst W, digC c) (hW : W.size ≤ 16) (k : Nat) : valD ((lst W).take k) ≤ 10000000000000000 := by
  have h1 := valD_lt ((lst W).take k) fun c hc => h c (List.mem_of_mem_take hc)
  have h2 : ((lst W).take k).length ≤ 16 := by rw [List.length_take, lst_len]; omega
  have h3 : 10 ^ ((lst W).take k).length ≤ 10 ^ 16 := Nat.pow_le_pow_right (by decide) h2
  have h4 : (10 : Nat) ^ 16 = 10000000000000000 := by decide
  omega
/-- How the number ends. -/
theorem numP_big {S : ByteArray} {i p : Nat} {f : Flt} {ng : Bool} {wh pl : ByteArray} (h : NumP S i p f ng wh pl) (hb : tailN i ng wh pl = .error (1, (i : Int))) : (keepF f (1, (i : Int))).1 ≠ 0 ∧ numE S i = .error (keepF f (1, (i : Int))) := by
  obtain ⟨_, _, _, _, _, h6⟩ := h
  unfold keepF
  rcases h6 with ⟨rfl, e⟩ | ⟨hf, e⟩
  · rw [if_pos rfl]
    rw [hb] at e
    exact ⟨by show (1 : Int) ≠ 0; decide, e⟩
  · rw [if_neg hf]; exact ⟨hf, e⟩
theorem numP_fin {S : ByteArray} {i p : Nat} {f : Flt} {ng : Bool} {wh pl : ByteArray} {u : Int} (h : NumP S i p f ng wh pl) (hb : tailN i ng wh pl = .ok u) : f = (0, 0) ∧ (3 : Int) = 3 ∧ numE S i = .ok (u, p) ∨ f.1 ≠ 0 ∧ numE S i = .error f := by
  obtain ⟨_, _, _, _, _, h6⟩ := h
  rcases h6 with ⟨rfl, e⟩ | ⟨hf, e⟩
  · rw [hb] at e; exact .inl ⟨rfl, rfl, e⟩
  · exact .inr ⟨hf, e⟩
end Go.Proofs.YtmmbbndoimleaaaGreatDoor

/- The walk of number of the reference's reader. -/
namespace Go.Proofs.YtmmbbndoimleaaaGreatDoor
open Go.RowKit

set_option maxRecDepth 100000 in
set_option maxHeartbeats 4000000 in
theorem rnumber_run (S : ByteArray) (g i : Nat) (w : World) (h : Rdr w g S i (0, 0)) (hi : i ≤ S.size) (hS : S.size ≤ 1000000000) :
    Calls Tryz.prog 54 #[.pointer (some ⟨g, 0, none⟩)] w (NumPost g S w (numE S i)) := by
  obtain ⟨r, hr⟩ : ∃ r, r = numE S i := ⟨_, rfl⟩
  obtain ⟨a, ha⟩ : ∃ a, a = numI S i := ⟨_, rfl⟩
  obtain ⟨ng, hng⟩ : ∃ b, b = (nx S i == 45) := ⟨_, rfl⟩
  have has : a ≤ S.size := by
    rw [ha]; unfold numI; split
    · have := nx_in (S := S) (i := i) (by rename_i h; rw [h]; decide); omega
    · exact hi
  have HIS := hide fun W (h : Rdr W g S i (0, 0)) => (show Calls Tryz.prog 47 #[.pointer (some ⟨g, 0, none⟩), .int .u8 45] W fun e w' => e = .returned (.bool ng) ∧ Rdr w' g S a (0, 0) ∧ Px g W w' from by
    have := is_run S g i 45 (0, 0) W h (by decide) (by omega)
    have hb : isB S i 45 (0, 0) = ng := by rw [hng]; unfold isB; simp
    rw [hb] at this
    have e : (if ng = true then i + 1 else i) = a := by
      rw [ha, hng]; unfold numI
      by_cases h45 : nx S i = 45
      · rw [if_pos (by simpa using h45), if_pos h45]
      · rw [if_neg (by simpa using h45), if_neg h45]
    rw [e] at this
    exact this)
  have HY := hide fun c k V (h : Rdr V g S k (0, 0)) (hk : k ≤ S.size) => is_yes S g k c (0, 0) V h (by omega)
  have HN := hide fun c k f V (h : Rdr V g S k f) (hk : k ≤ S.size) => is_no S g k c f V h (by omega)
  have HD := hide fun k V (h : Rdr V g S k (0, 0)) => rdigits_yes S g k V h hS
  have HDN := hide fun k V (h : Rdr V g S k (0, 0)) (hk : k ≤ S.size) => rdigits_no S g k V h hk
  have HF := hide fun (k : Nat) f V (h : Rdr V g S k f) => rfail_run S g k f 1 (i : Int) V h
  have HV := hide fun u W => refValid_run u W
  have HA := Lib.hid ha; have HNG := Lib.hid hng; have HR := Lib.hid hr
  have hgl := h.lt
  have HP := hide h
  rw [← hr]
  clear hr ha hng h
  go_enter Tryz.func54, Tryz.ntmps54
  go_upto_region 1 with fail
  obtain ⟨w1, g2, e1, e2, hB1, _, _, _, _, _, hR1⟩ := boxD w 0 0 ⟨#[]⟩ (.slice none 0 0) (.slice none 0 0)
  have HST := hide (show NSt w g g2 S i (0, 0) ZV w1 from ⟨⟨hgl, e2, by rw [← e1, ← e2]; simp⟩, HP.out.below hB1, Px.of_below hB1, hR1⟩)
  rw [e1, e2]
  clear e1 e2 hB1 hR1 HP hgl
  obtain ⟨c0, c1, c2, c3⟩ := HST.out.2.1.cells
  go_wp2_with fail
  refine (HIS.out _ HST.out.2.1).mono ?_; rintro e w2 ⟨rfl, hr2, hx2⟩
  have HS2 := hide (HST.out.px hx2 hr2)
  clear hr2 hx2 c0 c1 c2 c3 HST HIS
  obtain ⟨z, hz⟩ : ∃ z, z = isB S a 48 (0, 0) := ⟨_, rfl⟩
  obtain ⟨p0, hp0⟩ : ∃ p, p = if z = true then a + 1 else a := ⟨_, rfl⟩
  have HI0 := hide fun V (h : Rdr V g S a (0, 0)) => (show Calls Tryz.prog 47 #[.pointer (some ⟨g, 0, none⟩), .int .u8 48] V fun e w' => e = .returned (.bool z) ∧ Rdr w' g S p0 (0, 0) ∧ Px g V w' from by
    have := is_run S g a 48 (0, 0) V h (by decide) (by omega)
    rw [← hz, ← hp0] at this
    exact this)
  have HZ := Lib.hid hz; have HP0 := Lib.hid hp0
  clear hz hp0
  go_wp2_with fail
  refine (HI0.out _ HS2.out.2.1).mono ?_; rintro e w3 ⟨rfl, hr3, hx3⟩
  have HS3 := hide (HS2.out.px hx3 hr3)
  clear hr3 hx3 HS2 HI0
  go_upto_if 17 with (fail)
  go_cut [5] from 17 to 19 (fun v wc => ∃ (wh : ByteArray) (p : Nat) (f : Flt), v = .string wh ∧ Hid (NSt w g g2 S p f ZV wc ∧ NumW S i a p f wh))
  case first =>
    cases z with
    | true =>
      have h48 : nx S a = 48 := by have := HZ.out; unfold isB at this; simpa using this.symm
      have HW := hide (show NumW S i a p0 (0, 0) ⟨#[48]⟩ by have e := HP0.out; rw [if_pos rfl] at e; rw [e]; exact numW_zero (i := i) h48)
      clear h48
      go_wp2_with fail
      go_meet
      case rel => exact ⟨_, _, _, rfl, hide ⟨HS3.out, HW.out⟩⟩
    | false =>
      have h48 : nx S a ≠ 48 := by have := HZ.out; unfold isB at this; simpa using this.symm
      have e0 : p0 = a := by have e := HP0.out; rwa [if_neg (by simp)] at e
      subst e0
      obtain ⟨d, hd⟩ : ∃ d, d = digB (nx S p0) := ⟨_, rfl⟩
      cases d with
      | true =>
        have HW := hide (numW_dig (i := i) h48 hd.symm)
        have HD1 := hide fun V (h : Rdr V g S p0 (0, 0)) => HD.out p0 V h hd.symm
        clear h48 hd
        go_wp2_with fail
        refine (HD1.out _ HS3.out.2.1).mono ?_; rintro e w4 ⟨rfl, hr4, hx4⟩
        have HS4 := hide (HS3.out.px hx4 hr4)
        clear hr4 hx4 HS3
        go_wp2_with fail
        go_meet
        case rel => exact ⟨_, _, _, rfl, hide ⟨HS4.out, HW.out⟩⟩
      | false =>
        have HW := hide (numW_none HA.out has hd.symm)
        have HD1 := hide fun V (h : Rdr V g S p0 (0, 0)) => HDN.out p0 V h has hd.symm
        clear h48 hd
        go_wp2_with fail
        refine (HD1.out _ HS3.out.2.1).mono ?_; rintro e w4 ⟨rfl, hr4, hx4⟩
        have HS4 := hide (HS3.out.px hx4 hr4)
        clear hr4 hx4 HS3
        go_wp2_with fail
        go_meet
        case rel => exact ⟨_, _, _, rfl, hide ⟨HS4.out, HW.out⟩⟩
  case rest =>
    clear HS3 HZ HP0
    obtain ⟨wh, p, f, rfl, HC⟩ := hcut
    have hps : p ≤ S.size := HC.out.2.2.2.1
    obtain ⟨z2, hz⟩ : ∃ z, z = isB S p 46 f := ⟨_, rfl⟩
    obtain ⟨p1, hp0⟩ : ∃ q, q = if z2 = true then p + 1 else p := ⟨_, rfl⟩
    have HI0 := hide fun V (h : Rdr V g S p f) => (show Calls Tryz.prog 47 #[.pointer (some ⟨g, 0, none⟩), .int .u8 46] V fun e w' => e = .returned (.bool z2) ∧ Rdr w' g S p1 f ∧ Px g V w' from by
      have := is_run S g p 46 f V h (by decide) (by omega)
      rw [← hz, ← hp0] at this
      exact this)
    have HZ := Lib.hid hz; have HP0 := Lib.hid hp0
    clear hz hp0
    go_wp2_with fail
    refine (HI0.out _ HC.out.1.2.1).mono ?_; rintro e w3 ⟨rfl, hr3, hx3⟩
    have HS3 := hide (HC.out.1.px hx3 hr3)
    have HNW := hide HC.out.2
    clear hr3 hx3 HC HI0
    go_upto_if 21 with (fail)
    go_cut [6] from 21 to 23 (fun v wc => ∃ (pl : ByteArray) (p : Nat) (f : Flt), v = .string pl ∧ Hid (NSt w g g2 S p f ZV wc ∧ NumP S i p f ng wh pl))
    case first =>
      cases z2 with
      | true =>
        have hf : f.1 = 0 ∧ nx S p = 46 := by have := HZ.out; unfold isB at this; simpa using this.symm
        have e1 : p1 = p + 1 := by have e := HP0.out; rwa [if_pos rfl] at e
        subst e1
        have hf0 : f = (0, 0) := by
          rcases HNW.out.2.2.2 with ⟨e, _⟩ | ⟨e, _⟩
          · exact e
          · exact absurd hf.1 e
        subst hf0
        have hp1 : p + 1 ≤ S.size := by have := nx_in (S := S) (i := p) (by rw [hf.2]; decide); omega
        obtain ⟨d, hd⟩ : ∃ d, d = digB (nx S (p + 1)) := ⟨_, rfl⟩
        cases d with
        | true =>
          have HW := hide (numP_dig HA.out HNW.out hf.2 hd.symm)
          have HD1 := hide fun V (h : Rdr V g S (p + 1) (0, 0)) => HD.out (p + 1) V h hd.symm
          clear hd hf
          go_wp2_with fail
          refine (HD1.out _ HS3.out.2.1).mono ?_; rintro e w4 ⟨rfl, hr4, hx4⟩
          have HS4 := hide (HS3.out.px hx4 hr4)
          clear hr4 hx4 HS3
          go_wp2_with fail
          go_meet
          case rel => exact ⟨_, _, _, rfl, hide ⟨HS4.out, by rw [HNG.out]; exact HW.out⟩⟩
        | false =>
          have HW := hide (numP_dot HA.out HNW.out hf.2 hd.symm)
          have HD1 := hide fun V (h : Rdr V g S (p + 1) (0, 0)) => HDN.out (p + 1) V h hp1 hd.symm
          clear hd hf
          go_wp2_with fail
          refine (HD1.out _ HS3.out.2.1).mono ?_; rintro e w4 ⟨rfl, hr4, hx4⟩
          have HS4 := hide (HS3.out.px hx4 hr4)
          clear hr4 hx4 HS3
          go_wp2_with fail
          go_meet
          case rel => exact ⟨_, _, _, rfl, hide ⟨HS4.out, by rw [HNG.out]; exact HW.out⟩⟩
      | false =>
        have e1 : p1 = p := by have e := HP0.out; rwa [if_neg (by simp)] at e
        subst e1
        have HW := hide (show NumP S i p1 f ng wh ⟨#[]⟩ by
          by_cases hf : f.1 = 0
          · have hf0 : f = (0, 0) := by
              rcases HNW.out.2.2.2 with ⟨e, _⟩ | ⟨e, _⟩
              · exact e
              · exact absurd hf e
            subst hf0
            have h46 : nx S p1 ≠ 46 := by have := HZ.out; unfold isB at this; simpa using this.symm
            rw [HNG.out]
            exact numP_none HA.out HNW.out h46
          · exact numP_bad HNW.out hf)
        go_wp2_with fail
        go_meet
        case rel => exact ⟨_, _, _, rfl, hide ⟨HS3.out, HW.out⟩⟩
    case rest =>
      clear HS3 HNW HZ HP0 hps
      obtain ⟨pl, q, f2, rfl, HE⟩ := hcut
      have hqs : q ≤ S.size := HE.out.2.2.2.2.2.1
      have HFR := hide fun V (h : Rdr V g S q f2) => HF.out q f2 V h
      have HNP := hide HE.out.2
      have HS0 := hide HE.out.1
      clear HE
      by_cases hbig : 12 < wh.size ∨ 4 < pl.size
      · have HB := hide (numP_big HNP.out (by unfold tailN; rw [if_pos hbig]))
        have hg : (12 : Int) < (wh.size : Int) ∨ (¬ (12 : Int) < (wh.size : Int) ∧ (4 : Int) < (pl.size : Int)) := by omega
        clear hbig
        rcases hg with hg | ⟨hg, hg2⟩
        all_goals
          go_wp2_with fail
          refine (HFR.out _ HS0.out.2.1).mono ?_; rintro e w5 ⟨rfl, hr5, hx5⟩
          have HS5 := hide (HS0.out.px hx5 hr5)
          clear hr5 hx5 HS0 HFR
          obtain ⟨r0, r1, r2, r3, r4⟩ := row5 HS5.out.2.2.2
          have f0 := HS5.out.2.2.2.frozen 0
          have f1 := HS5.out.2.2.2.frozen 1
          have f2' := HS5.out.2.2.2.frozen 2
          have f3 := HS5.out.2.2.2.frozen 3
          have f4 := HS5.out.2.2.2.frozen 4
          go_wp2_with fail
          refine bodyPost_ret (results_dat rfl _ _ g2 _ _ _ _ _ rfl (row_set5 HS5.out.2.2.2 _ _ _ _ _)) rfl ?_
          exact ⟨0, 0, q, _, rfl, hqs, rdr_far5 HS5.out.2.1 (by have := HS5.out.1; omega) _ _ _ _ _, px_set5 HS5.out.2.2.1 (by have := HS5.out.1; omega) _ _ _ _ _, .inr ⟨HB.out.1, HR.out.trans HB.out.2⟩⟩
      · have hg : ¬ (12 : Int) < (wh.size : Int) := by omega
        have hg2 : ¬ (4 : Int) < (pl.size : Int) := by omega
        have hw12 : wh.size ≤ 12 := by omega
        have hp4 : pl.size ≤ 4 := by omega
        have HBIG := hide hbig
        clear hbig
        go_wp2_with fail
        go_loopw [6] (fun v wr => ∃ (P : ByteArray) (k : Nat), v = .string P ∧ P.size = pl.size + k ∧ P.size ≤ 4 ∧ Hid (lst P = lst pl ++ List.replicate k 48) ∧ Hid (NSt w g g2 S q f2 ZV wr)) (fun v _ => 4 - sizeOfV v)
        case atStart => exact ⟨pl, 0, rfl, rfl, hp4, hide (by simp), HS0⟩
        case round =>
          clear HS0
          obtain ⟨P, k, rfl, hPk, hP4, hI, HS0⟩ := hrel
          by_cases hlt : P.size < 4
          · have HI2 := hide (pad_push hI.out)
            have hz2 : (P ++ ⟨#[48]⟩ : ByteArray).size = P.size + 1 := by rw [bsize_append]; rfl
            have HZ2 := Lib.hid hz2
            have hlti : (P.size : Int) < 4 := by omega
            clear hI hz2
            go_wp2_with fail
            go_roundw
            case rel => exact ⟨_, k + 1, rfl, by rw [HZ2.out]; omega, by rw [HZ2.out]; omega, HI2, HS0⟩
            case measure => show 4 - (P ++ ⟨#[48]⟩ : ByteArray).size < 4 - P.size; rw [HZ2.out]; omega
          · have hlti : ¬ (P.size : Int) < 4 := by omega
            have hk : k = 4 - pl.size := by omega
            have HDG := hide (all_dig HNP.out.1 HNP.out.2.1 hI.out)
            obtain ⟨W, hW⟩ : ∃ W, W = wh ++ P := ⟨_, rfl⟩
            have hWE : wh ++ P = W := hW.symm
            have hWz : W.size = wh.size + P.size := by rw [hW, bsize_append]
            obtain ⟨N, hN⟩ : ∃ N, N = W.size := ⟨_, rfl⟩
            have hN16 : N ≤ 16 := by omega
            have HVB := hide (valD_bound (W := W) (by rw [hW]; exact HDG.out) (by omega))
            have HTD := hide fun k (hk : k < W.size) => take_dig (W := W) (by rw [hW]; exact HDG.out) hk
            have HLW := hide (show lst W = lst wh ++ (lst pl ++ List.replicate (4 - pl.size) 48) by rw [hW, lst_append, hI.out, hk])
            have HNN := Lib.hid hN
            have hNI : (W.size : Int) = (N : Int) := by omega
            have hov : ¬ 9223372036854775807 < wh.size + P.size := by omega
            clear hW hI HDG hWz hN hk hlt
            go_wp2_with fail
            go_loopw [7, 8] (fun nv iv wr => ∃ k n : Nat, iv = .int .i64 k ∧ nv = .int .i64 n ∧ k ≤ N ∧ n ≤ 10000000000000000 ∧ Hid (n = valD ((lst W).take k)) ∧ Hid (NSt w g g2 S q f2 ZV wr)) (fun _ iv _ => N - (intOf iv).toNat)
            case atStart => exact ⟨0, 0, rfl, rfl, Nat.zero_le _, by decide, hide rfl, HS0⟩
            case round =>
              clear HS0
              obtain ⟨k, n, rfl, rfl, hk, hn, hI, HS0⟩ := hrel
              by_cases hlt : k < N
              · have hkw : k < W.size := by rw [← HNN.out]; exact hlt
                obtain ⟨t1, t2⟩ := HTD.out k hkw
                have HB2 := hide (HVB.out (k + 1))
                obtain ⟨x, hx⟩ : ∃ x, x = (W[k]).toNat := ⟨_, rfl⟩
                rw [← hx] at t1 t2
                have hx2 : x < 256 := by rw [hx]; exact (W[k]).toNat_lt
                have t3 : 48 ≤ x ∧ x ≤ 57 := by
                  have e : (UInt8.ofNat x).toNat = x := by simp; omega
                  unfold digC at t1
                  rw [e] at t1; exact t1
                have hS2 : (W[k]).toNat = x := hx.symm
                have w1' : IntKind.u8.wrap ((x : Int) - 48) = (x : Int) - 48 := by rw [IntKind.wrap_u8]; omega
                have w2' : IntKind.i64.wrap ((n : Int) * 10) = (n : Int) * 10 := IntWalk.i64_in _ (by omega)
                have w3' : IntKind.i64.wrap ((x : Int) - 48) = (x : Int) - 48 := IntWalk.i64_in _ (by omega)
                have w4' : IntKind.i64.wrap ((n : Int) * 10 + ((x : Int) - 48)) = ((n * 10 + (x - 48) : Nat) : Int) := by rw [IntWalk.i64_in _ (by omega)]; omega
                have HI2 := hide (show n * 10 + (x - 48) = valD ((lst W).take (k + 1)) by rw [t2, ← hI.out]; omega)
                clear t1 t2 hx
                go_wp2_with fail
                go_roundw
                case rel => exact ⟨k + 1, n * 10 + (x - 48), by go_num, rfl, by omega, by rw [HI2.out]; exact HB2.out, HI2, HS0⟩
                case measure => simp [intOf]; omega
              · obtain rfl : k = N := by omega
                have hval : n = valD (lst wh ++ (lst pl ++ List.replicate (4 - pl.size) 48)) := by
                  have := hI.out
                  rw [List.take_of_length_le (by rw [lst_len, ← HNN.out]; exact Nat.le_refl _), HLW.out] at this
                  exact this
                have hT := show tailN i ng wh pl = (if 1000000000000000 < n then .error (1, (i : Int)) else .ok (if ng = true then -(n : Int) else (n : Int))) by
                  unfold tailN; rw [if_neg HBIG.out, ← hval]
                have HVN := hide fun V => HV.out (n : Int) V
                by_cases hbg : 1000000000000000 < n
                · have HB := hide (numP_big HNP.out (by rw [hT, if_pos hbg]))
                  have hvb : validB (n : Int) = false := by unfold validB; simp; omega
                  rw [hvb] at HVN
                  clear hval hT hvb hbg
                  go_wp2_with fail
                  refine (HVN.out _).mono ?_; rintro e w4 ⟨rfl, hw4⟩
                  rw [hw4]
                  clear hw4
                  go_wp2_with fail
                  refine (HFR.out _ HS0.out.2.1).mono ?_; rintro e w5 ⟨rfl, hr5, hx5⟩
                  have HS5 := hide (HS0.out.px hx5 hr5)
                  clear hr5 hx5 HS0 HFR
                  obtain ⟨r0, r1, r2, r3, r4⟩ := row5 HS5.out.2.2.2
                  have f0 := HS5.out.2.2.2.frozen 0
                  have f1 := HS5.out.2.2.2.frozen 1
                  have f2' := HS5.out.2.2.2.frozen 2
                  have f3 := HS5.out.2.2.2.frozen 3
                  have f4 := HS5.out.2.2.2.frozen 4
                  go_wp2_with fail
                  refine bodyPost_ret (results_dat rfl _ _ g2 _ _ _ _ _ rfl (row_set5 HS5.out.2.2.2 _ _ _ _ _)) rfl ?_
                  exact ⟨0, 0, q, _, rfl, hqs, rdr_far5 HS5.out.2.1 (by have := HS5.out.1; omega) _ _ _ _ _, px_set5 HS5.out.2.2.1 (by have := HS5.out.1; omega) _ _ _ _ _, .inr ⟨HB.out.1, HR.out.trans HB.out.2⟩⟩
                · have hvb : validB (n : Int) = true := by unfold validB; simp; omega
                  rw [hvb] at HVN
                  rw [if_neg hbg] at hT
                  have HFN := hide (numP_fin HNP.out hT)
                  have HFN2 := hide (show f2 = (0, 0) ∧ (3 : Int) = 3 ∧ r = .ok (if ng = true then -(n : Int) else (n : Int), q) ∨ f2.1 ≠ 0 ∧ r = .error f2 by rw [HR.out]; exact HFN.out)
                  have HS5 := HS0
                  clear hval hT hvb hbg HS0 HFR HFN HR HNG
                  obtain ⟨r0, r1, r2, r3, r4⟩ := row5 HS5.out.2.2.2
                  have f0 := HS5.out.2.2.2.frozen 0
                  have f1 := HS5.out.2.2.2.frozen 1
                  have f2' := HS5.out.2.2.2.frozen 2
                  have f3 := HS5.out.2.2.2.frozen 3
                  have f4 := HS5.out.2.2.2.frozen 4
                  have wn : IntKind.i64.wrap (-(n : Int)) = -(n : Int) := IntWalk.i64_in _ (by omega)
                  cases ng with
                  | true =>
                    go_wp2_with fail
                    refine (HVN.out _).mono ?_; rintro e w4 ⟨rfl, hw4⟩
                    rw [hw4]
                    clear hw4
                    go_wp2_with fail
                    refine bodyPost_ret (results_dat rfl _ _ g2 _ _ _ _ _ rfl (row_set5 HS5.out.2.2.2 _ _ _ _ _)) rfl ?_
                    exact ⟨3, -(n : Int), q, _, rfl, hqs, rdr_far5 HS5.out.2.1 (by have := HS5.out.1; omega) _ _ _ _ _, px_set5 HS5.out.2.2.1 (by have := HS5.out.1; omega) _ _ _ _ _, by have := HFN2.out; simpa using this⟩
                  | false =>
                    go_wp2_with fail
                    refine (HVN.out _).mono ?_; rintro e w4 ⟨rfl, hw4⟩
                    rw [hw4]
                    clear hw4
                    go_wp2_with fail
                    refine bodyPost_ret (results_dat rfl _ _ g2 _ _ _ _ _ rfl (row_set5 HS5.out.2.2.2 _ _ _ _ _)) rfl ?_
                    exact ⟨3, (n : Int), q, _, rfl, hqs, rdr_far5 HS5.out.2.1 (by have := HS5.out.1; omega) _ _ _ _ _, px_set5 HS5.out.2.2.1 (by have := HS5.out.1; omega) _ _ _ _ _, by have := HFN2.out; simpa using this⟩
end Go.Proofs.YtmmbbndoimleaaaGreatDoor

/- The reference's reader: values in memory; what they are, plain. -/
namespace Go.Proofs.YtmmbbndoimleaaaGreatDoor
open Go.RowKit

/-- The two blocks of a call of list or structure. -/
def LSt (w : World) (g g2 g3 b0 : Nat) (D3 : List Value) (W : World) : Prop :=
  (w.heap.size = g2 ∧ g3 = g2 + 1 ∧ b0 = g2 + 2 ∧ g < g2) ∧ b0 ≤ W.heap.size ∧ Px g w W ∧ Row W g2 25 ZV ∧ Row W g3 25 D3
section
variable {w wr W : World} {g g2 g3 b0 : Nat} {D3 : List Value}
theorem LSt.turn (h : LSt w g g2 g3 b0 D3 wr) (hX : Px g w W) (hs : wr.heap.size ≤ W.heap.size) (hk : ∀ k, g2 ≤ k → k < b0 → W.heap[k]? = wr.heap[k]?) : LSt w g g2 g3 b0 D3 W := by
  obtain ⟨h0, h1, h2, h3, h4⟩ := h
  exact ⟨h0, Nat.le_trans h1 hs, hX, (hk g2 (by omega) (by omega)).trans h3, (hk g3 (by omega) (by omega)).trans h4⟩
theorem LSt.px (h : LSt w g g2 g3 b0 D3 wr) (hX : Px g wr W) : LSt w g g2 g3 b0 D3 W :=
  h.turn (h.2.2.1.trans hX) hX.size fun k k1 k2 => hX.2 k (by have := h.2.1; omega) (by have := h.1; omega)
theorem LSt.below (h : LSt w g g2 g3 b0 D3 wr) (hB : Below wr.heap.size wr W) : LSt w g g2 g3 b0 D3 W := h.px (Px.of_below hB)
theorem LSt.set (h : LSt w g g2 g3 b0 D3 wr) (i : Nat) (u : Value) : LSt w g g2 g3 b0 (D3.set i u) (wr.setCell ⟨g3, i, none⟩ u) := by
  obtain ⟨h0, h1, h2, h3, h4⟩ := h
  exact ⟨h0, by rw [csize_set]; exact h1, h2.setFar (p := ⟨g3, i, none⟩) (by show _ ≤ g3; omega) u, h3.far (by show g2 ≠ g3; omega) u, h4.set_ i u⟩
theorem LSt.kp (h : LSt w g g2 g3 b0 D3 wr) (hk : KP g b0 wr W) : LSt w g g2 g3 b0 D3 W := by
  have h0 := h.1
  exact h.turn ⟨h.2.2.1.1.trans hk.1, fun k k1 k2 => (hk.2 k (by omega) k2).trans (h.2.2.1.2 k k1 k2)⟩ hk.1.size fun k k1 k2 => hk.2 k k2 (by omega)
theorem OwnD.set {b0 m : Nat} {ob : Option Nat} {u : Value} {l : List Dt} (h : OwnD (PZ b0 ob w m) w b0 u l) {p : Addr} (hp : p.block < b0) (v : Value) : OwnD (PZ b0 ob (w.setCell p v) m) (w.setCell p v) b0 u l := by
  obtain ⟨xs, ho, hf⟩ := h
  exact ⟨xs, own_set ho hp v, hf.turn fun x a c a' c' h => h.turn (by rw [csize_set]; exact Nat.le_refl _) fun k k1 _ k3 => ⟨Below.heap_setCell _ _ _ _ (by omega), k1, k3⟩⟩
end
/-- One more item stands. -/
theorem item_end {w0 wr w4 wv w5 : World} {S : ByteArray} {g g2 g3 b0 m n p gn cap : Nat} {f : Flt} {u : Value} {l : List Dt} {d : Dt} {a : Option Addr} {c : Nat} {a' : Option Addr} {c' : Nat} {xs : List Value}
    (hST : LSt w0 g g2 g3 b0 [.int .i64 5, .int .i64 0, .string ⟨#[]⟩, u, .slice none 0 0] wr) (ho : wr.ownsRow b0 25 5 u n xs) (hf : FlatD (PZ b0 u.ownBlock wr m) xs l) (hn : l.length = n)
    (hX : Px g wr w4) (hR : Rdr w4 g S p f) (hP : PZ wr.heap.size none w4 m d a c a' c') (hv : Below w4.heap.size w4 wv)
    (o1 : w5.ownsRow b0 25 5 (.slice (some ⟨gn, 0, none⟩) (n + 1) cap) (n + 1) (xs ++ datCs d a c a' c')) (o2 : wv.grownBy w5 u.ownBlock) (o3 : u.ownBlock = some gn ∨ gn = wv.heap.size) :
    (Row w5 g3 25 [.int .i64 5, .int .i64 0, .string ⟨#[]⟩, u, .slice none 0 0]) ∧ ∀ W, W = w5.setCell ⟨g3, 3, none⟩ (.slice (some ⟨gn, 0, none⟩) (n + 1) cap) →
    Rdr W g S p f ∧ LSt w0 g g2 g3 b0 [.int .i64 5, .int .i64 0, .string ⟨#[]⟩, .slice (some ⟨gn, 0, none⟩) (n + 1) cap, .slice none 0 0] W ∧ OwnD (PZ b0 (Value.slice (some ⟨gn, 0, none⟩) (n + 1) cap).ownBlock W m) W b0 (.slice (some ⟨gn, 0, none⟩) (n + 1) cap) (l ++ [d]) := by
  have h0 := hST.1
  have hb0 := hST.2.1
  have hob : ∀ k, u.ownBlock = some k → b0 ≤ k ∧ k < wr.heap.size := fun k e => ho.lt k e
  have e5 : ∀ k, k < w4.heap.size → some k ≠ u.ownBlock → w5.heap[k]? = w4.heap[k]? := fun k k1 k2 => (o2.block k (Nat.lt_of_lt_of_le k1 hv.size) k2).trans (hv.block k k1)
  have hgb : some g ≠ u.ownBlock := fun e => by have := (hob g e.symm).1; omega
  have hsz : w4.heap.size ≤ w5.heap.size := Nat.le_trans hv.size o2.size
  have hKP : KP g b0 wr w5 := ⟨(hX.1.trans (hv.mono (Nat.zero_le _))).grown o2 (Nat.zero_le _) (fun k e => Nat.zero_le _), fun k k1 k2 =>
    (e5 k (by have := hX.size; omega) (fun e => by have := (hob k e.symm).1; omega)).trans (hX.2 k (by omega) k2)⟩
  have hL5 := hST.kp hKP
  have hR5 : Rdr w5 g S p f := (e5 g (Row.lt hR) hgb).trans hR
  have hO5 : OwnD (PZ b0 (Value.slice (some ⟨gn, 0, none⟩) (n + 1) cap).ownBlock w5 m) w5 b0 (.slice (some ⟨gn, 0, none⟩) (n + 1) cap) (l ++ [d]) := by
    refine own_push5 hf hn hb0 hP o1 hX.size hsz (fun k k1 k2 k3 => ?_) fun k k1 k2 => ?_
    · have hne : k ≠ gn := by
        rcases o3 with e | e
        · intro e'; exact k3 (by rw [e, e'])
        · have := hv.size; have := hX.size; omega
      exact ⟨(e5 k (Nat.lt_of_lt_of_le k2 hX.size) k3).trans (hX.2 k k2 (by omega)), hne⟩
    · have hnb : some k ≠ u.ownBlock := fun e => by have := (hob k e.symm).2; omega
      have hne : k ≠ gn := by
        rcases o3 with e | e
        · intro e'; exact hnb (by rw [e, e'])
        · have := hv.size; omega
      exact ⟨e5 k k2 hnb, hne⟩
  refine ⟨hL5.2.2.2.2, ?_⟩
  rintro W rfl
  exact ⟨Row.far hR5 (by show g ≠ g3; omega) _, hL5.set 3 _, hO5.set (p := ⟨g3, 3, none⟩) (by show g3 < b0; omega) _⟩
/-- What a reader of a value hands back. -/
def VR (g : Nat) (S : ByteArray) (w : World) (m : Nat) (r : Except Flt (Dt × Nat)) (e : Ending) (w' : World) : Prop :=
  ∃ (d : Dt) (a : Option Addr) (c : Nat) (a' : Option Addr) (c' : Nat) (p : Nat) (f : Flt), e = .returned (datV d a c a' c') ∧ PZ w.heap.size none w' m d a c a' c' ∧ p ≤ S.size ∧ Rdr w' g S p f ∧ Px g w w' ∧ (f = (0, 0) ∧ r = .ok (d, p) ∨ f.1 ≠ 0 ∧ r = .error f)
/-- The end of list and of structure. -/
theorem lst_end {w0 wr : World} {S : ByteArray} {g g2 g3 b0 m p : Nat} {f : Flt} {r : Except Flt (Dt × Nat)} {k : Int} {u v : Value} {l : List Dt} {ms : List (ByteArray × Dt)}
    (h : LSt w0 g g2 g3 b0 [.int .i64 k, .int .i64 0, .string ⟨#[]⟩, u, v] wr) (hd : DZ b0 wr m u l) (hm : MZ b0 wr m v ms) (hR : Rdr wr g S p f) (hp : p ≤ S.size)
    (hr : f = (0, 0) ∧ r = .ok (mkD k 0 ⟨#[]⟩ l ms, p) ∨ f.1 ≠ 0 ∧ r = .error f) (x0 x1 x2 x3 x4 : Value) :
    VR g S w0 (m + 1) r (.returned (.agg #[.int .i64 k, .int .i64 0, .string ⟨#[]⟩, u, v])) (set5 wr g2 x0 x1 x2 x3 x4) := by
  obtain ⟨h0, h1, h2, h3, h4⟩ := h
  have hs := set5_size wr g2 x0 x1 x2 x3 x4
  have hk : ∀ k, k ≠ g2 → (set5 wr g2 x0 x1 x2 x3 x4).heap[k]? = wr.heap[k]? := fun k hk => set5_heap wr g2 _ _ _ _ _ hk
  obtain ⟨a, c, a', c', rfl, rfl, hpz⟩ := pz_mk (k := k) (n := 0) (s := ⟨#[]⟩) (hd.turn (lo' := w0.heap.size) (w' := set5 wr g2 x0 x1 x2 x3 x4) (by omega) (by omega) fun k k1 _ => hk k (by omega)) (hm.turn (lo' := w0.heap.size) (w' := set5 wr g2 x0 x1 x2 x3 x4) (by omega) (by omega) fun k k1 _ => hk k (by omega))
  exact ⟨_, a, c, a', c', p, f, by unfold datV datCs; simp, hpz, hp, rdr_far5 hR (by omega) _ _ _ _ _, px_set5 h2 (by omega) _ _ _ _ _, hr⟩

/-! Plain -/
def clrV (m : Nat) (S : ByteArray) (r : Except Flt (Dt × Nat)) : Except Flt (Dt × Nat) := match r with
  | .error f => .error f
  | .ok (d, j) => .ok (clearF m d, blk S j)
def clrL (m : Nat) (r : Except Flt (List Dt × Nat)) : Except Flt (Dt × Nat) := match r with
  | .error f => .error f
  | .ok (l, j) => .ok (mkD 5 0 ⟨#[]⟩ (l.map (clearF m)) [], j)
def clrM (m : Nat) (r : Except Flt (List (ByteArray × Dt) × Nat)) : Except Flt (Dt × Nat) := match r with
  | .error f => .error f
  | .ok (l, j) => .ok (mkD 6 0 ⟨#[]⟩ [] (sortK Prod.fst (l.map fun x => (x.1, clearF m x.2))), j)
theorem clrV_ok {m : Nat} {S : ByteArray} {r : Except Flt (Dt × Nat)} {d : Dt} {p : Nat} (h : clrV m S r = .ok (d, p)) : ∃ d0 j, r = .ok (d0, j) ∧ d = clearF m d0 ∧ p = blk S j := by
  cases r with
  | error f => cases h
  | ok q =>
    obtain ⟨d0, j⟩ := q
    injection h with h
    injection h with h1 h2
    exact ⟨d0, j, rfl, h1.symm, h2.symm⟩
theorem clrV_err {m : Nat} {S : ByteArray} {r : Except Flt (Dt × Nat)} {f : Flt} (h : clrV m S r = .error f) : r = .error f := by
  cases r with
  | error f' => injection h with h; rw [h]
  | ok q => cases h
/-- Where a list stands. -/
def LR (S : ByteArray) (m : Nat) (r : Except Flt (Dt × Nat)) (i k : Nat) (f : Flt) (l : List Dt) : Prop :=
  f = (0, 0) ∧ i < k ∧ l.length ≤ k ∧ (∃ l0 : List Dt, l = l0.map (clearF m) ∧ r = clrL m (sevR S 93 (itemS (valF S m)) l0 k)) ∨ f.1 ≠ 0 ∧ l.length ≤ S.size + 1 ∧ r = .error f
/-- One more item. -/
theorem list_step {S : ByteArray} {m i k p : Nat} {r : Except Flt (Dt × Nat)} {l : List Dt} {d : Dt} {f : Flt} (h : LR S m r i k (0, 0) l) (hk : k ≤ S.size) (hp : p ≤ S.size)
    (hv : f = (0, 0) ∧ clrV m S (valF S m (blk S k)) = .ok (d, p) ∨ f.1 ≠ 0 ∧ clrV m S (valF S m (blk S k)) = .error f) :
    (isB S p 93 f = true → f = (0, 0) ∧ p + 1 ≤ S.size ∧ r = .ok (mkD 5 0 ⟨#[]⟩ (l ++ [d]) [], p + 1)) ∧
    (isB S p 93 f = false → isB S p 44 f = true → k < p + 1 ∧ p + 1 ≤ S.size ∧ LR S m r i (p + 1) f (l ++ [d])) ∧
    (isB S p 93 f = false → isB S p 44 f = false → LR S m r i p (keepF f (19, (p : Int))) (l ++ [d]) ∧ (keepF f (19, (p : Int))).1 ≠ 0) := by
  rcases h with ⟨_, hik, hl, l0, rfl, hr⟩ | ⟨h, _⟩
  rotate_left
  · exact absurd rfl h
  rw [sevR_eq (val_ig S m) l0 hk] at hr
  rcases hv with ⟨rfl, hv⟩ | ⟨hf, hv⟩
  · obtain ⟨d0, j, hv0, rfl, rfl⟩ := clrV_ok hv
    obtain ⟨v1, v2⟩ := val_gain m hv0
    have v3 : k ≤ blk S k := run_ge _ _ _
    have v4 : j ≤ blk S j := run_ge _ _ _
    have hst : itemS (valF S m) l0 (blk S k) = .ok (l0 ++ [d0], j) := by unfold itemS; rw [hv0]
    rw [hst] at hr
    simp only at hr
    have hmap : l0.map (clearF m) ++ [clearF m d0] = (l0 ++ [d0]).map (clearF m) := by rw [List.map_append]; rfl
    have b93 : ∀ c, isB S (blk S j) c (0, 0) = true ↔ nx S (blk S j) = c := fun c => by unfold isB; simp
    have b93' : ∀ c, isB S (blk S j) c (0, 0) = false ↔ nx S (blk S j) ≠ c := fun c => by unfold isB; simp
    refine ⟨fun h => ?_, fun h h' => ?_, fun h h' => ?_⟩
    · have hx := (b93 93).1 h
      have hin := nx_in (S := S) (i := blk S j) (by rw [hx]; decide)
      rw [if_pos hx] at hr
      exact ⟨rfl, hin, by rw [hmap, hr]; rfl⟩
    · have hx := (b93' 93).1 h
      have hx' := (b93 44).1 h'
      have hin := nx_in (S := S) (i := blk S j) (by rw [hx']; decide)
      rw [if_neg hx, show wordF S [44] (blk S j) = .ok (blk S j + 1) by rw [wordF, if_pos (show nx S (blk S j) = (44 : UInt8).toNat from hx')]; rfl] at hr
      rw [List.length_map] at hl
      exact ⟨by omega, hin, .inl ⟨rfl, by omega, by rw [hmap, List.length_map, List.length_append, List.length_singleton]; omega, l0 ++ [d0], hmap, hr⟩⟩
    · have hx := (b93' 93).1 h
      have hx' := (b93' 44).1 h'
      rw [if_neg hx, show wordF S [44] (blk S j) = .error (19, ((blk S j : Nat) : Int)) by rw [wordF, if_neg (show nx S (blk S j) ≠ (44 : UInt8).toNat from hx')]] at hr
      rw [List.length_map] at hl
      have e : keepF (0, 0) (19, ((blk S j : Nat) : Int)) = (19, ((blk S j : Nat) : Int)) := if_pos rfl
      rw [e]
      exact ⟨.inr ⟨by show (19 : Int) ≠ 0; decide, by rw [List.length_append, List.length_map, List.length_singleton]; omega, hr⟩, by show (19 : Int) ≠ 0; decide⟩
  · have hv0 := clrV_err hv
    have hst : itemS (valF S m) l0 (blk S k) = .error f := by unfold itemS; rw [hv0]
    rw [hst] at hr
    have hr : r = .error f := hr
    have hb : ∀ c, isB S p c f = false := fun c => by
      unfold isB
      have : (f.1 == 0) = false := by simpa using hf
      rw [this]; rfl
    rw [List.length_map] at hl
    refine ⟨fun h => (by rw [hb] at h; cases h), fun _ h => (by rw [hb] at h; cases h), fun _ _ => ?_⟩
    have e : keepF f (19, (p : Int)) = f := if_neg hf
    rw [e]
    exact ⟨.inr ⟨hf, by rw [List.length_append, List.length_map, List.length_singleton]; omega, hr⟩, hf⟩
end Go.Proofs.YtmmbbndoimleaaaGreatDoor
