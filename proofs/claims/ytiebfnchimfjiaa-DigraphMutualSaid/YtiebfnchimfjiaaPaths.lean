/- Paths: the walk. -/
import Derived.Test.YtiebfnchimfjiaaS1
import Derived.Test.YtiebfnchimfjiaaMat
import Derived.Test.YtiebfnchimfjiaaPure
import Derived.StillTailTactics
namespace Go.Proofs.Ytiebfnchimfjiaa
open Go.RowKit Go.Deep

def bld (g : List (List Int)) (i j : Nat) : Nat → Nat → Bool := fun a b => decide (a < i ∨ a = i ∧ b < j) && G.ed g a b

theorem bld_step {n : Nat} (g : List (List Int)) (k j : Nat) (a b : Nat) (_ha : a < k + 1) (_hb : b < n) : bld g k (j + 1) a b = upd (bld g k j) k j (decide ((j : Int) ∈ G.row g k)) a b := by
  unfold bld upd
  by_cases h : a = k ∧ b = j
  · obtain ⟨rfl, rfl⟩ := h; simp [G.ed]
  · rw [if_neg h]
    congr 1
    simp only [decide_eq_decide]
    omega
theorem bld_row (g : List (List Int)) (k n a b : Nat) (hb : b < n) : bld g (k + 1) 0 a b = bld g k n a b := by
  unfold bld; congr 1; simp only [decide_eq_decide]; omega

def PathsPost (w : World) (g : List (List Int)) (e : Ending) (w' : World) : Prop :=
  ∃ v m, e = .returned v ∧ Below w.heap.size w w' ∧ BRows2 w' w'.heap.size v (matL g.length m) ∧ G.War g g.length 0 0 m

theorem info27 : (Try.prog.info? 27).map (fun i => (i.zero, i.size, i.bytes)) = some (some (.slice none 0 0), 1, 24) := by kernel_rfl
theorem info4 : (Try.prog.info? 4).map (fun i => (i.zero, i.size, i.bytes)) = some (some (.bool false), 1, 1) := by kernel_rfl
theorem info23 : (Try.prog.info? 23).map (fun i => (i.zero, i.size, i.bytes)) = some (some (.slice none 0 0), 1, 24) := by kernel_rfl
theorem info3 : (Try.prog.info? 3).map (fun i => (i.zero, i.size, i.bytes)) = some (some (.int .i64 0), 1, 8) := by kernel_rfl

set_option maxHeartbeats 1000000 in
theorem Paths_any (v : Value) (g : List (List Int)) (w : World) (hg : Rows2 w w.heap.size v g) (hn : g.length ≤ 1000000) :
    Calls Try.prog 32 #[v] w (PathsPost w g) := by
  obtain ⟨A, c, rfl, hc1, hc2, hrows⟩ := hg.parts
  have hm1 := maxLen_le hc2
  obtain ⟨n, e⟩ : ∃ n, g.length = n := ⟨_, rfl⟩
  have HN := Lib.hid e
  rw [e] at hn hc1 hg ⊢
  have HG := Lib.hid hg
  clear e hrows hg hc2
  have hmk := fun W => run_make_row' (P := Try.prog) 38 27 (.slice none 0 0) 24 Try.underlying38 info27 rfl .i64 .i64 n (by omega) (by omega) W
  have hmk2 := fun W => run_make_row' (P := Try.prog) 27 4 (.bool false) 1 Try.underlying27 info4 rfl .i64 .i64 n (by omega) (by omega) W
  go_enter Try.func32, Try.ntmps32
  go_wp2_with fail
  go_loopw [5] (fun i wr => ∃ k : Nat, k ≤ n ∧ i = .int .i64 k ∧ Hid (MB w wr w.heap.size n k (bld g k 0))) (fun i _ => n - (intOf i).toNat)
  case atStart => exact ⟨0, Nat.zero_le _, rfl, MB.start w n _⟩
  case round =>
    obtain ⟨k, hk, rfl, hI⟩ := hrel
    by_cases hlt : k < n
    · have hc0 := hI.out.cell0 (Nat.le_refl _) hlt
      have hf0 := hI.out.free k
      have hsz : w.heap.size < wr.heap.size := hI.out.outer.lt
      go_wp2_with fail
      obtain ⟨wo, hwo⟩ : ∃ wo, wo = ((wr.setCell ⟨w.heap.size, k, none⟩ (.slice (some ⟨wr.heap.size, 0, none⟩) n n)).alloc (.cells (madeCells #[.bool false] n) 4)) := ⟨_, rfl⟩
      have hS : MB w wo w.heap.size n (k + 1) (bld g k 0) := by
        rw [hwo]; exact hI.out.addRow hlt (fun b => by simp [bld]) (fun _ _ _ => rfl)
      rw [← hwo]
      have HS := Lib.hid hS
      clear hwo hS hc0 hf0 hsz
      go_loopw [6] (fun i wr => ∃ j : Nat, j ≤ n ∧ i = .int .i64 j ∧ Hid (MB w wr w.heap.size n (k + 1) (bld g k j))) (fun i _ => n - (intOf i).toNat)
      case atStart => exact ⟨0, Nat.zero_le _, rfl, HS.out⟩
      case round =>
        rename_i w2 _
        clear HS
        obtain ⟨j, hj, rfl, hJ⟩ := hrel
        by_cases hjn : j < n
        · have hc1 := hJ.out.cell (a := k) (by omega)
          simp only [rowSl] at hc1
          have hc2 := hJ.out.get (a := k) (by omega) hjn
          have hf2 := hJ.out.free2 (a := k) (by omega) j
          go_wp2_with fail
          refine wp_region_still_tail 10 (by kernel_rfl) (by kernel_rfl) ?_
          simp only [List.take_succ_cons, List.take_zero, List.drop_succ_cons, List.drop_zero]
          repeat still_step
          still_call ((edge_row _ g k j _ w.heap.size (HG.out.same (Same.trans (Same.of_below hJ.out.below) Same.drew)) (by have := HN.out; omega)).mono fun e w' ⟨h1, h2⟩ => ⟨h1, h2.symm⟩)
          repeat still_step
          refine wpStill_nil ?_
          go_wp2_with fail
          go_roundw
          case rel => exact ⟨j + 1, by omega, by go_num, ((hJ.out.store (a := k) (b := j) (by omega) _).drewN 1).congr (bld_step g k j)⟩
          case measure => simp [intOf]; omega
        · go_wp2_with fail
          obtain rfl : j = n := by omega
          go_roundw
          case rel => exact ⟨k + 1, by omega, by go_num, hJ.out.congr (fun a b ha hb => bld_row g k j a b hb)⟩
          case measure => simp [intOf]; omega
    · obtain rfl : k = n := by omega
      go_wp2_with fail
      have hS : MB w wr w.heap.size k k (bld g k 0) ∧ G.War g 0 0 0 (bld g k 0) := ⟨hI.out, G.War.start fun x y hx hy => by have := HN.out; simp [bld]; omega⟩
      have HS := Lib.hid hS
      clear hS hI
      go_loopw [7] (fun i wr => ∃ q : Nat, q ≤ k ∧ i = .int .i64 q ∧ Hid (∃ m, MB w wr w.heap.size k k m ∧ G.War g q 0 0 m)) (fun i _ => k - (intOf i).toNat)
      case atStart => exact ⟨0, Nat.zero_le _, rfl, _, HS.out⟩
      case round =>
        clear HS
        obtain ⟨q, hq, rfl, hI⟩ := hrel
        by_cases hqn : q < k
        · go_wp2_with fail
          go_loopw [8] (fun i wr => ∃ a : Nat, a ≤ k ∧ i = .int .i64 a ∧ Hid (∃ m, MB w wr w.heap.size k k m ∧ G.War g q a 0 m)) (fun i _ => k - (intOf i).toNat)
          case atStart => exact ⟨0, Nat.zero_le _, rfl, hI.out⟩
          case round =>
            clear hI
            obtain ⟨a, ha, rfl, hI⟩ := hrel
            by_cases han : a < k
            · go_wp2_with fail
              go_loopw [9] (fun i wr => ∃ b : Nat, b ≤ k ∧ i = .int .i64 b ∧ Hid (∃ m, MB w wr w.heap.size k k m ∧ G.War g q a b m)) (fun i _ => k - (intOf i).toNat)
              case atStart => exact ⟨0, Nat.zero_le _, rfl, hI.out⟩
              case round =>
                clear hI
                obtain ⟨b, hb, rfl, hI⟩ := hrel
                obtain ⟨m, hM, hW⟩ := hI.out
                clear hI
                by_cases hbn : b < k
                · have hc1 := hM.cell (a := a) han
                  have hc2 := hM.cell (a := q) hqn
                  simp only [rowSl] at hc1 hc2
                  have hg1 := hM.get (a := a) han hbn
                  have hg2 := hM.get (a := a) han hqn
                  have hg3 := hM.get (a := q) hqn hbn
                  have hf1 := hM.free2 (a := a) han b
                  have hW' := G.War.step hW (by have := HN.out; omega) (by have := HN.out; omega) (by have := HN.out; omega) (m' := upd m a b (m a b || (m a q && m q b))) (fun x y => rfl)
                  have hM' := (hM.store (a := a) (b := b) han (m a b || (m a q && m q b))).drewN 1
                  have HW := Lib.hid hW'; have HM := Lib.hid hM'
                  clear hW hM hW' hM'
                  cases h1 : m a b with
                  | true =>
                    rw [h1] at HM HW hg1
                    go_wp2_with fail
                    refine wp_region_still_tail 31 (by kernel_rfl) (by kernel_rfl) ?_
                    simp only [List.take_succ_cons, List.take_zero, List.drop_succ_cons, List.drop_zero]
                    iterate 13 still_step
                    iterate 16 (with_reducible refine wpStill_skip ?_ ?_; kernel_rfl; simp only [Act.put, List.setIfInBounds_toArray, List.set_cons_succ, List.set_cons_zero])
                    iterate 2 still_step
                    refine wpStill_nil ?_
                    go_wp2_with fail
                    go_roundw
                    case rel => exact ⟨b + 1, by omega, by go_num, _, HM.out, HW.out⟩
                    case measure => simp [intOf]; omega
                  | false =>
                    rw [h1] at HM HW hg1
                    cases h2 : m a q with
                    | true =>
                      rw [h2] at HM HW hg2
                      go_wp2_with fail
                      refine wp_region_still_tail 31 (by kernel_rfl) (by kernel_rfl) ?_
                      simp only [List.take_succ_cons, List.take_zero, List.drop_succ_cons, List.drop_zero]
                      iterate 13 still_step
                      iterate 16 (with_reducible refine wpStill_want ?_ (fun K hK => ?_); kernel_rfl; go_simp; refine hK _ ?_; clear hK K)
                      iterate 2 still_step
                      refine wpStill_nil ?_
                      go_wp2_with fail
                      go_roundw
                      case rel => exact ⟨b + 1, by omega, by go_num, _, HM.out, HW.out⟩
                      case measure => simp [intOf]; omega
                    | false =>
                      rw [h2] at HM HW hg2
                      go_wp2_with fail
                      refine wp_region_still_tail 31 (by kernel_rfl) (by kernel_rfl) ?_
                      simp only [List.take_succ_cons, List.take_zero, List.drop_succ_cons, List.drop_zero]
                      iterate 13 still_step
                      iterate 8 (with_reducible refine wpStill_want ?_ (fun K hK => ?_); kernel_rfl; go_simp; refine hK _ ?_; clear hK K)
                      iterate 7 (with_reducible refine wpStill_skip ?_ ?_; kernel_rfl; simp only [Act.put, List.setIfInBounds_toArray, List.set_cons_succ, List.set_cons_zero])
                      iterate 1 (with_reducible refine wpStill_want ?_ (fun K hK => ?_); kernel_rfl; go_simp; refine hK _ ?_; clear hK K)
                      iterate 2 still_step
                      refine wpStill_nil ?_
                      go_wp2_with fail
                      go_roundw
                      case rel => exact ⟨b + 1, by omega, by go_num, _, HM.out, HW.out⟩
                      case measure => simp [intOf]; omega
                · go_wp2_with fail
                  go_roundw
                  case rel => exact ⟨a + 1, by omega, by go_num, m, hM, by
                    obtain rfl : b = k := by omega
                    have := HN.out; subst this; exact hW.row⟩
                  case measure => simp [intOf]; omega
            · go_wp2_with fail
              go_roundw
              case rel =>
                obtain ⟨m, hM, hW⟩ := hI.out
                exact ⟨q + 1, by omega, by go_num, m, hM, by
                  obtain rfl : a = k := by omega
                  have := HN.out; subst this; exact hW.round⟩
              case measure => simp [intOf]; omega
        · go_wp2_with fail
          go_ret
          obtain ⟨m, hM, hW⟩ := hI.out
          refine ⟨_, m, rfl, hM.below, ?_, ?_⟩
          · have := HN.out; rw [this]; exact hM.reads (by unfold maxLen; omega)
          · obtain rfl : q = k := by omega
            have := HN.out; subst this; exact hW
end Go.Proofs.Ytiebfnchimfjiaa
