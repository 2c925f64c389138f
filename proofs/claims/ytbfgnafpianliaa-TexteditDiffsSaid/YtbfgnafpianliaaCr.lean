/- Common of the reference: the walk. -/
import Derived.Test.YtbfgnafpianliaaLg
namespace Go.Proofs.Ytbfgnafpianliaa
open Go.RowKit

theorem RowF.al {w : World} {g n : Nat} {t : TypeId} {f : Nat → Value} (h : RowF w g t n f) (o : Obj) : RowF (w.alloc o) g t n f := Row.alloc h o
theorem RowF.far {w : World} {g n : Nat} {t : TypeId} {f : Nat → Value} (h : RowF w g t n f) {p : Addr} (hp : g ≠ p.block) (u : Value) : RowF (w.setCell p u) g t n f := Row.far h hp u
/-- The next row, of which k members are done. -/
def nextv (a b : List ByteArray) (i k j : Nat) : Nat := if j ≤ k then lcs a b (i + 1) j else 0
theorem nextv_start (a b : List ByteArray) (i j : Nat) : nextv a b i 0 j = 0 := by
  unfold nextv; split
  · have : j = 0 := by omega
    subst this; rw [lcs_zero]
  · rfl
theorem nextv_step (a b : List ByteArray) (i k j : Nat) : (if j = k + 1 then lcs a b (i + 1) (k + 1) else nextv a b i k j) = nextv a b i (k + 1) j := by
  unfold nextv
  by_cases h : j = k + 1
  · subst h; simp
  · by_cases h2 : j ≤ k
    · simp [h, h2, show j ≤ k + 1 by omega]
    · simp [h, h2, show ¬ j ≤ k + 1 by omega]

set_option maxHeartbeats 1000000 in
theorem Common_run (u v : Value) (a b : List ByteArray) (w : World) (hu : Strs w w.heap.size u a) (hv : Strs w w.heap.size v b) (ha : a.length ≤ 1000000) (hb : b.length ≤ 1000000) :
    Calls Try.prog 26 #[u, v] w fun e w' => e = .returned (.int .i64 (lcs a b a.length b.length : Int)) ∧ Below w.heap.size w w' := by
  obtain ⟨A, c, rfl, hc1, hc2, hels⟩ := hu.parts
  obtain ⟨A', c', rfl, hc1', hc2', hels'⟩ := hv.parts
  have hm := maxLen_le hc2
  have hm' := maxLen_le hc2'
  have HE := Lib.hid hels; have HE' := Lib.hid hels'; clear hels hc2 hels' hc2' hu hv
  obtain ⟨n, hn⟩ : ∃ n, n = a.length := ⟨_, rfl⟩
  obtain ⟨m, hmm⟩ : ∃ n, n = b.length := ⟨_, rfl⟩
  rw [← hn] at hc1 ha ⊢
  rw [← hmm] at hc1' hb ⊢
  have HN := Lib.hid hn
  have HM := Lib.hid hmm
  clear hn hmm
  have hmk : ∀ W, (Instr.makeSlice 50 (.int .i64 ((m : Int) + 1)) (.int .i64 ((m : Int) + 1))).run Try.prog W = .ok (.slice (some ⟨W.heap.size, 0, none⟩) (m + 1) (m + 1)) (W.alloc (.cells (madeCells #[.int .i64 0] (m + 1)) 3)) :=
    fun W => run_make_row' (P := Try.prog) 50 3 (.int .i64 0) 8 Try.underlying50 info3 rfl .i64 .i64 (m + 1) (by omega) (by omega) W
  go_enter Try.func26, Try.ntmps26
  go_wp2
  obtain ⟨w1, hw1⟩ : ∃ w1, w1 = w.alloc (.cells (madeCells #[.int .i64 0] (m + 1)) 3) := ⟨_, rfl⟩
  obtain ⟨g0, hg⟩ : ∃ g, g = w.heap.size := ⟨_, rfl⟩
  have HS : Hid (RowF w1 g0 3 (m + 1) (fun j => .int .i64 (lcs a b 0 j : Int)) ∧ Below w.heap.size w w1 ∧ w.heap.size ≤ g0) := hide (by
    rw [hw1, hg]; exact ⟨(RowF.made w 3 (.int .i64 0) (m + 1)).congr fun j _ => by rw [lcs_zero']; rfl, (Below.refl _ _).alloc (Nat.le_refl _) _, Nat.le_refl _⟩)
  rw [← hw1, ← hg]
  clear hw1 hg
  go_loopw [5, 6, 7, 8] (fun rv iv _ _ wr => ∃ i g : Nat, iv = .int .i64 i ∧ rv = .slice (some ⟨g, 0, none⟩) (m + 1) (m + 1) ∧ i ≤ n ∧ Hid (RowF wr g 3 (m + 1) (fun j => .int .i64 (lcs a b i j : Int)) ∧ Below w.heap.size w wr ∧ w.heap.size ≤ g)) (fun _ iv _ _ _ => n - (intOf iv).toNat)
  case atStart => exact ⟨0, g0, rfl, rfl, by omega, HS⟩
  case round =>
    clear HS
    obtain ⟨i, g, rfl, rfl, hi, hI⟩ := hrel
    by_cases hlt : i < n
    · have hn := HN.out
      have hlt' : i < a.length := by omega
      obtain ⟨ad, rfl, hbb, hcell⟩ := HE.out i _ (List.getElem?_eq_getElem hlt')
      have HCELL := Lib.hid hcell
      obtain ⟨X, hX⟩ : ∃ X, X = a[i] := ⟨_, rfl⟩
      have hXd : X = a.getD i ByteArray.empty := by rw [hX]; simp [hlt']
      have HX := Lib.hid hXd
      rw [← hX] at HCELL
      clear hX hXd hn hcell
      obtain ⟨wq, hwq⟩ : ∃ wq, wq = wr := ⟨_, rfl⟩
      subst hwq
      go_wp2
      obtain ⟨w2, hw2⟩ : ∃ w2, w2 = wq.alloc (.cells (madeCells #[.int .i64 0] (m + 1)) 3) := ⟨_, rfl⟩
      obtain ⟨q, hq⟩ : ∃ q, q = wq.heap.size := ⟨_, rfl⟩
      have HS : Hid (RowF w2 q 3 (m + 1) (fun j => .int .i64 (nextv a b i 0 j : Int)) ∧ RowF w2 g 3 (m + 1) (fun j => .int .i64 (lcs a b i j : Int)) ∧ Below w.heap.size w w2) := hide (by
        rw [hw2, hq]; exact ⟨(RowF.made wq 3 (.int .i64 0) (m + 1)).congr fun j _ => by rw [nextv_start]; rfl, hI.out.1.al _, below_al hI.out.2.1 _⟩)
      have hgq : g < q := by rw [hq]; exact hI.out.1.lt
      have hwg : w.heap.size ≤ g := hI.out.2.2
      rw [← hw2, ← hq]
      have HGQ := Lib.hid (And.intro hgq hwg)
      clear hw2 hq hI hgq hwg hmk
      go_loopw [8] (fun kv wr => ∃ k : Nat, kv = .int .i64 k ∧ k ≤ m ∧ Hid (RowF wr q 3 (m + 1) (fun j => .int .i64 (nextv a b i k j : Int)) ∧ RowF wr g 3 (m + 1) (fun j => .int .i64 (lcs a b i j : Int)) ∧ Below w.heap.size w wr)) (fun kv _ => m - (intOf kv).toNat)
      case atStart => exact ⟨0, rfl, by omega, HS⟩
      case round =>
        clear HS
        obtain ⟨k, rfl, hk, hJ⟩ := hrel
        by_cases hlk : k < m
        · have hm := HM.out
          have hlk' : k < b.length := by omega
          obtain ⟨ad', rfl, hbb', hcell'⟩ := HE'.out k _ (List.getElem?_eq_getElem hlk')
          have HCELL' := Lib.hid hcell'
          have hcell' := (hJ.out.2.2.cell (p := ad'.add k) (by rw [block_of_add]; exact hbb')).trans hcell'
          have hcell := (hJ.out.2.2.cell (p := ad.add i) (by rw [block_of_add]; exact hbb)).trans HCELL.out
          obtain ⟨Y, hY⟩ : ∃ X, X = b[k] := ⟨_, rfl⟩
          have hYd : Y = b.getD k ByteArray.empty := by rw [hY]; simp [hlk']
          rw [← hY] at hcell' HCELL'
          have c1 := hJ.out.2.1.get (i := k + 1) (by omega)
          have f1 := hJ.out.1.free (k + 1)
          have cq := hJ.out.1.get (i := k + 1) (by omega)
          have c0 := hJ.out.1.get (i := k) (by omega)
          have c2 := hJ.out.2.1.get (i := k) (by omega)
          have r0 : nextv a b i k k = lcs a b (i + 1) k := by unfold nextv; rw [if_pos (by omega)]
          rw [r0] at c0
          have hl := lcs_le a b i k
          have hl1 := lcs_le a b i (k + 1)
          have hl2 := lcs_le a b (i + 1) k
          have hL : lcs a b (i + 1) (k + 1) = if X = Y then lcs a b i k + 1 else max (lcs a b i (k + 1)) (lcs a b (i + 1) k) := by rw [HX.out, hYd, lcs]
          obtain ⟨P0, hP0⟩ : ∃ p, p = lcs a b i k := ⟨_, rfl⟩
          obtain ⟨P1, hP1⟩ : ∃ p, p = lcs a b i (k + 1) := ⟨_, rfl⟩
          obtain ⟨P2, hP2⟩ : ∃ p, p = lcs a b (i + 1) k := ⟨_, rfl⟩
          rw [← hP0] at c2 hl hL
          rw [← hP1] at c1 hl1 hL
          rw [← hP2] at c0 hl2 hL
          have HL := Lib.hid hL; have HP0 := Lib.hid hP0.symm
          clear r0 hP0 hP1 hP2 hL hY hYd
          obtain ⟨M, hM⟩ : ∃ M, M = max P1 P2 := ⟨_, rfl⟩
          have hMx : (if P1 < P2 then (P2 : Int) else (P1 : Int)) = M := by split <;> omega
          have hMy : (if P2 < P1 then (P1 : Int) else (P2 : Int)) = M := by split <;> omega
          have HHM := Lib.hid hM
          obtain ⟨we, rfl⟩ : ∃ we, we = wr := ⟨_, rfl⟩
          clear hM
          go_wp2_with fail
          go_region
          obtain ⟨w5, hw5⟩ : ∃ w5, w5 = (we.setCell ⟨q, k + 1, none⟩ (.int .i64 (M : Int))).drew := ⟨_, rfl⟩
          have hR : RowF w5 q 3 (m + 1) (fun j => if j = k + 1 then .int .i64 (M : Int) else .int .i64 (nextv a b i k j : Int)) := by
            rw [hw5]; exact hJ.out.1.store (k + 1) _
          have hR2 : RowF w5 g 3 (m + 1) (fun j => .int .i64 (lcs a b i j : Int)) := by
            rw [hw5]; exact hJ.out.2.1.far (p := ⟨q, k + 1, none⟩) (by have := HGQ.out; show g ≠ q; omega) _
          have hB5 : Below w.heap.size w w5 := by
            rw [hw5]; exact Below.drew (hJ.out.2.2.setCell (p := ⟨q, k + 1, none⟩) (by have := HGQ.out; show _ ≤ q; omega) _)
          have hcell' := (hB5.cell (p := ad'.add k) (by rw [block_of_add]; exact hbb')).trans HCELL'.out
          have hcell := (hB5.cell (p := ad.add i) (by rw [block_of_add]; exact hbb)).trans HCELL.out
          have c2 := hR2.get (i := k) (by omega)
          have f1 := hR.free (k + 1)
          have cq := hR.get (i := k + 1) (by omega)
          rw [if_pos rfl] at cq
          rw [HP0.out] at c2
          rw [← hw5]
          have HR := Lib.hid (And.intro hR (And.intro hR2 hB5))
          clear hJ hw5 hR hR2 hB5 c0 c1
          by_cases hxy : X = Y
          · have g1 : (X.toList == Y.toList) = true := bytes_eq hxy
            have hz : lcs a b (i + 1) (k + 1) = P0 + 1 := by rw [HL.out, if_pos hxy]
            have HZ := Lib.hid hz
            clear hxy hz hm
            go_wp2_with fail
            go_quiet (fail)
            go_wp2_with fail
            go_roundw
            case rel =>
              refine ⟨k + 1, by go_num, by omega, hide ⟨?_, RowF.far (w := w5) HR.out.2.1 (p := ⟨q, k + 1, none⟩) (by have := HGQ.out; show g ≠ q; omega) _, Below.setCell (w := w5.drewN nq) (below_drewN HR.out.2.2 _) (p := ⟨q, k + 1, none⟩) (by have := HGQ.out; show _ ≤ q; omega) _⟩⟩
              refine (RowF.store (w := w5.drewN nq) HR.out.1 (k + 1) _).congr fun j _ => ?_
              rw [← nextv_step, HZ.out]
              split <;> simp
            case measure => simp [intOf]; omega
          · have g1 : (X.toList == Y.toList) = false := bytes_ne hxy
            have hz : lcs a b (i + 1) (k + 1) = M := by rw [HL.out, if_neg hxy, HHM.out, Nat.max_comm]
            have HZ := Lib.hid hz
            clear hxy hz hm
            go_wp2_with fail
            go_quiet (fail)
            go_wp2_with fail
            go_roundw
            case rel =>
              refine ⟨k + 1, by go_num, by omega, hide ⟨RowF.congr (w := w5.drewN nq) HR.out.1 fun j _ => ?_, HR.out.2.1, below_drewN HR.out.2.2 _⟩⟩
              rw [← nextv_step, HZ.out]
              split <;> simp
            case measure => simp [intOf]; omega
        · obtain rfl : k = m := by omega
          go_wp2_with fail
          go_roundw
          case rel =>
            refine ⟨i + 1, q, by go_num, rfl, by omega, hide ⟨hJ.out.1.congr fun j hj => ?_, hJ.out.2.2, by have := HGQ.out; omega⟩⟩
            unfold nextv; rw [if_pos (by omega)]
          case measure => simp [intOf]; omega
    · obtain rfl : i = n := by omega
      have c0 := hI.out.1.get (i := m) (by omega)
      go_wp2_with fail
      go_ret
      exact ⟨rfl, hI.out.2.1⟩
end Go.Proofs.Ytbfgnafpianliaa
