/- ref.Reach: the walk. -/
import Derived.Test.YtiebfnchimfjiaaPaths
namespace Go.Proofs.Ytiebfnchimfjiaa
open Go.RowKit Go.Deep

/-- What the reached nodes are, for a matrix of paths. -/
def rr (m : Nat → Nat → Bool) (n : Nat) (from_ : List Int) (b : Nat) : Bool :=
  from_.any fun a => decide (0 ≤ a ∧ a < n) && (decide (b = a.toNat) || m a.toNat b)
theorem rr_snoc (m : Nat → Nat → Bool) (n : Nat) (l : List Int) (a : Int) (b : Nat) :
    rr m n (l ++ [a]) b = (rr m n l b || (decide (0 ≤ a ∧ a < n) && (decide (b = a.toNat) || m a.toNat b))) := by
  simp [rr, List.any_append]
theorem rr_take (m : Nat → Nat → Bool) (n : Nat) (l : List Int) (k : Nat) (hk : k < l.length) (b : Nat) :
    rr m n (l.take (k + 1)) b = (rr m n (l.take k) b || (decide (0 ≤ l[k] ∧ l[k] < n) && (decide (b = l[k].toNat) || m l[k].toNat b))) := by
  rw [List.take_succ_eq_append_getElem hk, rr_snoc]

/-- In the inner loop. -/
def inn (o : Nat → Bool) (m : Nat → Nat → Bool) (a j : Nat) (b : Nat) : Bool := o b || decide (b = a) || (decide (b < j) && m a b)

def BoolsPost (w : World) (n : Nat) (R : (Nat → Bool) → Prop) (e : Ending) (w' : World) : Prop :=
  ∃ v o, e = .returned v ∧ Below w.heap.size w w' ∧ Bools w' w'.heap.size v ((List.range n).map o) ∧ R o


set_option maxHeartbeats 1000000 in
theorem RefReach_any (v u : Value) (g : List (List Int)) (fr : List Int) (w : World) (hg : Rows2 w w.heap.size v g) (hf : Ints w w.heap.size u fr) (hn : g.length ≤ 1000000) :
    Calls Try.prog 16 #[v, u] w (BoolsPost w g.length fun o => ∃ m, G.War g g.length 0 0 m ∧ ∀ b, b < g.length → o b = rr m g.length fr b) := by
  obtain ⟨A, c, rfl, hc1, hc2, hrows⟩ := hg.parts
  have hm1 := maxLen_le hc2
  obtain ⟨n, e⟩ : ∃ n, g.length = n := ⟨_, rfl⟩
  have HN := Lib.hid e
  obtain ⟨X, d, rfl, hd1, hd2, hels⟩ := hf.parts
  have hm2 := maxLen_le hd2
  have HE := Lib.hid hels
  rw [e] at hn hc1 hg ⊢
  have HG := Lib.hid hg
  clear e hrows hg hc2 hels hf hd2
  have hmk := fun W => run_make_row' (P := Try.prog) 27 4 (.bool false) 1 Try.underlying27 info4 rfl .i64 .i64 n (by omega) (by omega) W
  go_enter Try.func16, Try.ntmps16
  go_wp2_with fail
  have hP := Paths_any _ g w HG.out (by have := HN.out; omega)
  refine hP.mono ?_
  rintro e w1 ⟨p, m, rfl, hb, hm, hW⟩
  rw [HN.out] at hm hW
  have hml : (matL n m).length = n := by simp [matL]
  obtain ⟨P, pc, rfl, hp1, hp2, hrows⟩ := hm.parts
  rw [hml] at hm hp1 ⊢
  have hm3 := maxLen_le hp2
  have HM := Lib.hid hrows; have HW := Lib.hid hW; have HB := Lib.hid hb
  clear hP hm hW hb hp2 hrows hml
  go_wp2_with fail
  obtain ⟨w2, hw2⟩ : ∃ w2, w2 = w1.alloc (.cells (madeCells #[.bool false] n) 4) := ⟨_, rfl⟩
  have hS : RowF w2 w1.heap.size 4 n (fun b => .bool (rr m n [] b)) ∧ Below w1.heap.size w1 w2 := by
    rw [hw2]; exact ⟨RowF.made w1 4 (.bool false) n, (Below.refl _ _).alloc (Nat.le_refl _) _⟩
  have HS := Lib.hid hS
  rw [← hw2]
  clear hS hw2
  go_loopw [7] (fun i wr => ∃ k : Nat, k ≤ fr.length ∧ i = .int .i64 k ∧ Hid (RowF wr w1.heap.size 4 n (fun b => .bool (rr m n (fr.take k) b)) ∧ Below w1.heap.size w1 wr)) (fun i _ => fr.length - (intOf i).toNat)
  case atStart => exact ⟨0, Nat.zero_le _, rfl, HS.out⟩
  case round =>
    clear HS
    obtain ⟨k, hk, rfl, hI⟩ := hrel
    obtain ⟨hR, hBl⟩ := hI.out
    by_cases hlt : k < fr.length
    · have hrt := rr_take m n fr k hlt
      obtain ⟨xd, rfl, hxb, hxc⟩ := HE.out k _ (List.getElem?_eq_getElem hlt)
      have hxc' : wr.cell? (xd.add k) = some (.int .i64 fr[k]) := ((Same.trans (Same.of_below HB.out) ((Same.of_below hBl).mono HB.out.size)).cell (by rw [block_of_add]; exact hxb)).trans hxc
      obtain ⟨a, ha⟩ : ∃ a, fr[k] = a := ⟨_, rfl⟩
      rw [ha] at hxc' hrt
      have HRT := Lib.hid hrt; have HR := Lib.hid hR; have HBl := Lib.hid hBl
      clear ha hxc hrt hR hBl hI
      by_cases h0 : 0 ≤ a
      · by_cases hn' : a < n
        · obtain ⟨q, rfl⟩ := ofNat_of h0
          have hqn : q < n := by omega
          have d1 : decide ((q : Int) < 0) = false := by simp
          have d2 : decide ((n : Int) ≤ (q : Int)) = false := by simp; omega
          have hfr := HR.out.free q
          have hge := HR.out.get hqn
          go_wp2_with fail
          have hmq : (matL n m)[q]? = some ((List.range n).map fun b => m q b) := by simp [matL, hqn]
          obtain ⟨pd, pu, rfl, hpb, hpc, hpB⟩ := HM.out q _ hmq
          obtain ⟨U, uc, rfl, hu1, hu2, hels2⟩ := hpB.parts
          have hum := maxLen_le hu2
          simp only [List.length_map, List.length_range] at hpc hu1
          have HU := Lib.hid hels2
          have HPC := Lib.hid hpc
          clear hpB hu2 hels2 hmq hpc
          obtain ⟨w3, hw3⟩ : ∃ w3, w3 = wr.setCell ⟨w1.heap.size, q, none⟩ (.bool true) := ⟨_, rfl⟩
          have hS : RowF w3 w1.heap.size 4 n (fun b => .bool (inn (rr m n (fr.take k)) m q 0 b)) ∧ Below w1.heap.size w1 w3 := by
            rw [hw3]
            refine ⟨(HR.out.store q (.bool true)).congr fun b _ => ?_, HBl.out.setCell (Nat.le_refl _) _⟩
            by_cases e : b = q <;> simp [inn, e]
          have HS := Lib.hid hS
          rw [← hw3]
          clear hS hw3 hfr hge
          go_loopw [9] (fun i wr => ∃ j : Nat, j ≤ n ∧ i = .int .i64 j ∧ Hid (RowF wr w1.heap.size 4 n (fun b => .bool (inn (rr m n (fr.take k)) m q j b)) ∧ Below w1.heap.size w1 wr)) (fun i _ => n - (intOf i).toNat)
          case atStart => exact ⟨0, Nat.zero_le _, rfl, HS.out⟩
          case round =>
            clear HS HR HBl hxc'
            obtain ⟨j, hj, rfl, hI⟩ := hrel
            obtain ⟨hR, hBl⟩ := hI.out
            clear hI
            by_cases hjn : j < n
            · have hge := hR.get hjn
              have hfr := hR.free j
              obtain ⟨ud, rfl, hub, huc⟩ := HU.out j (m q j) (by simp [hjn])
              have huc' : wr.cell? (ud.add j) = some (.bool (m q j)) := ((Same.of_below hBl).cell (by rw [block_of_add]; exact hub)).trans huc
              have hpc' : wr.cell? (pd.add q) = some (.slice (some ud) n uc) := ((Same.of_below hBl).cell (by rw [block_of_add]; exact hpb)).trans HPC.out
              have HT : ∀ v : Bool, v = (inn (rr m n (fr.take k)) m q j j || m q j) → Hid (RowF (wr.setCell ⟨w1.heap.size, j, none⟩ (.bool v)) w1.heap.size 4 n (fun b => .bool (inn (rr m n (fr.take k)) m q (j + 1) b)) ∧ Below w1.heap.size w1 (wr.setCell ⟨w1.heap.size, j, none⟩ (.bool v))) := by
                intro v hv
                refine ⟨(hR.store j (.bool v)).congr fun b _ => ?_, hBl.setCell (Nat.le_refl _) _⟩
                by_cases e : b = j
                · subst e; rw [if_pos rfl, hv]
                  congr 1
                  unfold inn
                  by_cases h : b = q <;> simp [h]
                · rw [if_neg e]; congr 1; unfold inn; congr 2
                  simp only [decide_eq_decide]; omega
              have HT' := Lib.hid HT
              clear HT hR hBl huc
              obtain ⟨x, hx⟩ : ∃ x, inn (rr m n (fr.take k)) m q j j = x := ⟨_, rfl⟩
              rw [hx] at hge HT'
              clear hx
              cases x with
              | true =>
                go_wp2_with fail
                go_roundw
                case rel => exact ⟨j + 1, by omega, by go_num, HT'.out _ (by simp)⟩
                case measure => simp [intOf]; omega
              | false =>
                go_wp2_with fail
                go_roundw
                case rel => exact ⟨j + 1, by omega, by go_num, HT'.out _ (by simp)⟩
                case measure => simp [intOf]; omega
            · go_wp2_with fail
              go_roundw
              case rel =>
                refine ⟨k + 1, by omega, by go_num, hR.congr fun b hb => ?_, hBl⟩
                rw [HRT.out]; congr 1; unfold inn
                have : b < j := by omega
                simp [this, hqn]
                cases rr m n (fr.take k) b <;> simp
              case measure => simp [intOf]; omega
        · have d1 : decide (a < 0) = false := by simpa using h0
          have d2 : decide ((n : Int) ≤ a) = true := by simp; omega
          go_wp2_with fail
          go_roundw
          case rel =>
            refine ⟨k + 1, by omega, by go_num, HR.out.congr fun b hb => ?_, HBl.out⟩
            rw [HRT.out]; congr 1; simp [hn']
          case measure => simp [intOf]; omega
      · have d1 : decide (a < 0) = true := by simp; omega
        go_wp2_with fail
        go_roundw
        case rel =>
          refine ⟨k + 1, by omega, by go_num, HR.out.congr fun b hb => ?_, HBl.out⟩
          rw [HRT.out]; congr 1; simp [h0]
        case measure => simp [intOf]; omega
    · go_wp2_with fail
      go_ret
      obtain rfl : k = fr.length := by omega
      rw [List.take_length] at hR
      refine ⟨_, fun b => rr m n fr b, rfl, HB.out.trans (hBl.mono HB.out.size), ?_, m, ?_, fun b _ => ?_⟩
      · have := Sl.of_rowF hR hR.lt (by unfold maxLen; omega)
        simpa [Bools, Function.comp_def] using this
      · exact HW.out
      · rfl
end Go.Proofs.Ytiebfnchimfjiaa
