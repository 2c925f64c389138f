/- lengths: the table of longest common subsequences, a row at a time. -/
import Derived.Test.YtbfgnafpianliaaRv
namespace Go.Proofs.Ytbfgnafpianliaa
open Go.RowKit

/-- The length of a longest common subsequence of the first i of a and the first j of b. -/
def lcs (a b : List ByteArray) : Nat → Nat → Nat
  | 0, _ => 0
  | _ + 1, 0 => 0
  | i + 1, j + 1 => if a.getD i ByteArray.empty = b.getD j ByteArray.empty then lcs a b i j + 1 else max (lcs a b i (j + 1)) (lcs a b (i + 1) j)
theorem lcs_zero (a b : List ByteArray) (i : Nat) : lcs a b i 0 = 0 := by cases i <;> simp [lcs]
theorem lcs_zero' (a b : List ByteArray) (j : Nat) : lcs a b 0 j = 0 := by simp [lcs]
theorem lcs_le (a b : List ByteArray) : ∀ i j, lcs a b i j ≤ i
  | 0, j => by simp [lcs]
  | i + 1, 0 => by simp [lcs]
  | i + 1, j + 1 => by
    unfold lcs
    have h1 := lcs_le a b i j
    have h2 := lcs_le a b i (j + 1)
    have h3 := lcs_le a b (i + 1) j
    split <;> omega

/-- The row when i members of a are done, and of the next the first k of b. -/
def rowv (a b : List ByteArray) (i k j : Nat) : Nat := if j ≤ k then lcs a b (i + 1) j else lcs a b i j
theorem rowv_start (a b : List ByteArray) (i j : Nat) : rowv a b i 0 j = lcs a b i j := by
  unfold rowv; split
  · have : j = 0 := by omega
    subst this; rw [lcs_zero, lcs_zero]
  · rfl
theorem rowv_step (a b : List ByteArray) (i k j : Nat) : (if j = k + 1 then lcs a b (i + 1) (k + 1) else rowv a b i k j) = rowv a b i (k + 1) j := by
  unfold rowv
  by_cases h : j = k + 1
  · subst h; simp
  · by_cases h2 : j ≤ k
    · simp [h, h2, show j ≤ k + 1 by omega]
    · simp [h, h2, show ¬ j ≤ k + 1 by omega]

theorem info3 : (Try.prog.info? 3).map (fun i => (i.zero, i.size, i.bytes)) = some (some (.int .i64 0), 1, 8) := by kernel_rfl
def LensPost (w : World) (a b : List ByteArray) (e : Ending) (w' : World) : Prop :=
  ∃ u, e = .returned u ∧ Below w.heap.size w w' ∧ Sl w' w'.heap.size u ((List.range (b.length + 1)).map fun j => .int .i64 (lcs a b a.length j))

set_option maxHeartbeats 1000000 in
theorem lengths_run (u v : Value) (a b : List ByteArray) (w : World) (hu : Strs w w.heap.size u a) (hv : Strs w w.heap.size v b) (ha : a.length ≤ 1000000) (hb : b.length ≤ 1000000) :
    Calls Try.prog 32 #[u, v] w (LensPost w a b) := by
  obtain ⟨A, c, rfl, hc1, hc2, hels⟩ := hu.parts
  obtain ⟨A', c', rfl, hc1', hc2', hels'⟩ := hv.parts
  have hm := maxLen_le hc2
  have hm' := maxLen_le hc2'
  have HE := Lib.hid hels; have HE' := Lib.hid hels'; clear hels hc2 hels' hc2' hu hv
  obtain ⟨n, hn⟩ : ∃ n, n = a.length := ⟨_, rfl⟩
  obtain ⟨m, hmm⟩ : ∃ n, n = b.length := ⟨_, rfl⟩
  rw [← hn] at hc1 ha ⊢
  rw [← hmm] at hc1' hb ⊢
  have HN := Lib.hid hn
  have HM := Lib.hid hmm
  clear hn hmm
  have hmk : ∀ W, (Instr.makeSlice 50 (.int .i64 ((m : Int) + 1)) (.int .i64 ((m : Int) + 1))).run Try.prog W = .ok (.slice (some ⟨W.heap.size, 0, none⟩) (m + 1) (m + 1)) (W.alloc (.cells (madeCells #[.int .i64 0] (m + 1)) 3)) :=
    fun W => run_make_row' (P := Try.prog) 50 3 (.int .i64 0) 8 Try.underlying50 info3 rfl .i64 .i64 (m + 1) (by omega) (by omega) W
  go_enter Try.func32, Try.ntmps32
  go_wp2
  obtain ⟨w1, hw1⟩ : ∃ w1, w1 = w.alloc (.cells (madeCells #[.int .i64 0] (m + 1)) 3) := ⟨_, rfl⟩
  obtain ⟨g, hg⟩ : ∃ g, g = w.heap.size := ⟨_, rfl⟩
  have HS : Hid (RowF w1 g 3 (m + 1) (fun j => .int .i64 (rowv a b 0 0 j : Int)) ∧ Below w.heap.size w w1) := hide (by
    rw [hw1, hg]; exact ⟨(RowF.made w 3 (.int .i64 0) (m + 1)).congr fun j _ => by rw [rowv_start, lcs_zero']; rfl, (Below.refl _ _).alloc (Nat.le_refl _) _⟩)
  have HG := Lib.hid hg
  rw [← hw1, ← hg]
  clear hw1 hg hmk
  go_loopw [7, 8, 9, 10, 11, 18, 22, 23, 24] (fun _ _ _ _ _ iv _ _ _ wr => ∃ i : Nat, iv = .int .i64 i ∧ i ≤ n ∧ Hid (RowF wr g 3 (m + 1) (fun j => .int .i64 (rowv a b i 0 j : Int)) ∧ Below w.heap.size w wr)) (fun _ _ _ _ _ iv _ _ _ _ => n - (intOf iv).toNat)
  case atStart => exact ⟨0, rfl, by omega, HS⟩
  case round =>
    clear HS
    obtain ⟨i, rfl, hi, hI⟩ := hrel
    by_cases hlt : i < n
    · have hn := HN.out
      have hlt' : i < a.length := by omega
      obtain ⟨ad, rfl, hbb, hcell⟩ := HE.out i _ (List.getElem?_eq_getElem hlt')
      have hcell := (hI.out.2.cell (p := ad.add i) (by rw [block_of_add]; exact hbb)).trans hcell
      obtain ⟨X, hX⟩ : ∃ X, X = a[i] := ⟨_, rfl⟩
      have hXd : X = a.getD i ByteArray.empty := by rw [hX]; simp [hlt']
      have HX := Lib.hid hXd
      rw [← hX] at hcell
      clear hX hXd hn
      obtain ⟨wq, hwq⟩ : ∃ wq, wq = wr := ⟨_, rfl⟩
      subst hwq
      go_wp2
      go_loopw [8, 9, 10, 11, 24] (fun bv _ _ _ kv wr => ∃ k : Nat, kv = .int .i64 k ∧ k ≤ m ∧ bv = .int .i64 (lcs a b i k : Int) ∧ Hid (RowF wr g 3 (m + 1) (fun j => .int .i64 (rowv a b i k j : Int)) ∧ Below w.heap.size w wr)) (fun _ _ _ _ kv _ => m - (intOf kv).toNat)
      case atStart => exact ⟨0, rfl, by omega, by rw [lcs_zero]; rfl, hI⟩
      case round =>
        clear hI hcell
        obtain ⟨k, rfl, hk, rfl, hJ⟩ := hrel
        by_cases hlk : k < m
        · have hm := HM.out
          have hlk' : k < b.length := by omega
          obtain ⟨ad', rfl, hbb', hcell'⟩ := HE'.out k _ (List.getElem?_eq_getElem hlk')
          have hcell' := (hJ.out.2.cell (p := ad'.add k) (by rw [block_of_add]; exact hbb')).trans hcell'
          obtain ⟨Y, hY⟩ : ∃ X, X = b[k] := ⟨_, rfl⟩
          have hYd : Y = b.getD k ByteArray.empty := by rw [hY]; simp [hlk']
          rw [← hY] at hcell'
          have c1 := hJ.out.1.get (i := k + 1) (by omega)
          have f1 := hJ.out.1.free (k + 1)
          have c0 := hJ.out.1.get (i := k) (by omega)
          have r1 : rowv a b i k (k + 1) = lcs a b i (k + 1) := by unfold rowv; rw [if_neg (by omega)]
          have r0 : rowv a b i k k = lcs a b (i + 1) k := by unfold rowv; rw [if_pos (by omega)]
          rw [r1] at c1
          rw [r0] at c0
          have hl := lcs_le a b i k
          have hl1 := lcs_le a b i (k + 1)
          have hl2 := lcs_le a b (i + 1) k
          have hL : lcs a b (i + 1) (k + 1) = if X = Y then lcs a b i k + 1 else max (lcs a b i (k + 1)) (lcs a b (i + 1) k) := by rw [HX.out, hYd, lcs]
          obtain ⟨P0, hP0⟩ : ∃ p, p = lcs a b i k := ⟨_, rfl⟩
          obtain ⟨P1, hP1⟩ : ∃ p, p = lcs a b i (k + 1) := ⟨_, rfl⟩
          obtain ⟨P2, hP2⟩ : ∃ p, p = lcs a b (i + 1) k := ⟨_, rfl⟩
          rw [← hP0] at hl hL ⊢
          rw [← hP1] at c1 hl1 hL
          rw [← hP2] at c0 hl2 hL
          have HL := Lib.hid hL; have HP1 := Lib.hid hP1
          clear r1 r0 hP0 hP1 hP2 hL hY hYd
          by_cases hxy : X = Y
          · have g1 : (X.toList == Y.toList) = true := bytes_eq hxy
            have hz : lcs a b (i + 1) (k + 1) = P0 + 1 := by rw [HL.out, if_pos hxy]
            have HZ := Lib.hid hz
            clear hxy hz hm
            go_wp2
            go_roundw
            case rel =>
              refine ⟨k + 1, by go_num, by omega, by rw [HP1.out], hide ⟨?_, hJ.out.2.setCell (by rw [HG.out]; exact Nat.le_refl _) _⟩⟩
              refine (hJ.out.1.store (k + 1) _).congr fun j _ => ?_
              rw [← rowv_step, HZ.out]
              split <;> simp
            case measure => simp [intOf]; omega
          · have g1 : (X.toList == Y.toList) = false := bytes_ne hxy
            have hz : lcs a b (i + 1) (k + 1) = max P1 P2 := by rw [HL.out, if_neg hxy]
            have HZ := Lib.hid hz
            clear hxy hz hm
            by_cases hp : (P1 : Int) < (P2 : Int)
            · have hp' : decide ((P2 : Int) > (P1 : Int)) = true := by simpa using hp
              go_wp2
              go_region
              go_wp2_with fail
              go_roundw
              case rel =>
                refine ⟨k + 1, by go_num, by omega, by rw [HP1.out], hide ⟨?_, (Below.drew hJ.out.2).setCell (by rw [HG.out]; exact Nat.le_refl _) _⟩⟩
                refine (RowF.store (w := wr.drew) hJ.out.1 (k + 1) _).congr fun j _ => ?_
                rw [← rowv_step, HZ.out]
                split <;> simp <;> omega
              case measure => simp [intOf]; omega
            · have hp' : decide ((P2 : Int) > (P1 : Int)) = false := by simpa using hp
              go_wp2
              go_region
              go_wp2_with fail
              go_roundw
              case rel =>
                refine ⟨k + 1, by go_num, by omega, by rw [HP1.out], hide ⟨?_, (Below.drew hJ.out.2).setCell (by rw [HG.out]; exact Nat.le_refl _) _⟩⟩
                refine (RowF.store (w := wr.drew) hJ.out.1 (k + 1) _).congr fun j _ => ?_
                rw [← rowv_step, HZ.out]
                split <;> simp <;> omega
              case measure => simp [intOf]; omega
        · obtain rfl : k = m := by omega
          go_wp2
          go_roundw
          case rel =>
            refine ⟨i + 1, by go_num, by omega, hide ⟨hJ.out.1.congr fun j hj => ?_, hJ.out.2⟩⟩
            rw [rowv_start]; unfold rowv; rw [if_pos (by omega)]
          case measure => simp [intOf]; omega
    · obtain rfl : i = n := by omega
      go_wp2
      go_ret
      refine ⟨_, rfl, hI.out.2, ?_⟩
      have h := Sl.of_rowF hI.out.1 hI.out.1.lt (by unfold maxLen; omega)
      rw [← HM.out, ← HN.out]
      have e : ((List.range (m + 1)).map fun j => Value.int .i64 (rowv a b i 0 j : Int)) = (List.range (m + 1)).map fun j => Value.int .i64 (lcs a b i j : Int) :=
        List.map_congr_left fun j _ => by rw [rowv_start]
      rw [e] at h
      exact h
end Go.Proofs.Ytbfgnafpianliaa
