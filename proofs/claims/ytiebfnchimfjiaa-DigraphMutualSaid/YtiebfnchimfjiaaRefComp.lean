/- ref.Components: the walk. -/
import Derived.Test.YtiebfnchimfjiaaComp
namespace Go.Proofs.Ytiebfnchimfjiaa
open Go.RowKit Go.Deep

theorem mut_of {g : List (List Int)} {m : Nat → Nat → Bool} (hW : G.War g g.length 0 0 m) {a b : Nat} (ha : a < g.length) (hb : b < g.length) (hne : a ≠ b) :
    (m a b && m b a) = true ↔ G.Mut g b a := by
  rw [Bool.and_eq_true, hW.fin a b ha hb, hW.fin b a hb ha]
  unfold G.Mut G.Rs
  constructor
  · rintro ⟨h1, h2⟩; exact ⟨.inr h2, .inr h1⟩
  · rintro ⟨h1, h2⟩
    exact ⟨h2.elim (fun e => absurd e hne) id, h1.elim (fun e => absurd e.symm hne) id⟩
theorem least_yes {g : List (List Int)} {a l b : Nat} (_h : G.LeastC g a ((b : Int) + 1) l) (hb : b < a) (hm : G.Mut g b a) : G.LeastC g a b b :=
  ⟨by omega, Int.le_refl _, hm, fun u h1 h2 => absurd h2 (by omega)⟩
theorem least_no {g : List (List Int)} {a l b : Nat} (h : G.LeastC g a ((b : Int) + 1) l) (hm : ¬ G.Mut g b a) : G.LeastC g a b l :=
  ⟨h.1, by have := h.2.1; omega, h.2.2.1, fun u h1 h2 => by
    by_cases e : u = b
    · subst e; exact hm
    · exact h.2.2.2 u (by omega) h2⟩

set_option maxHeartbeats 2000000 in
theorem RefComp_any (v : Value) (g : List (List Int)) (w : World) (hg : Rows2 w w.heap.size v g) (hn : g.length ≤ 1000000) :
    Calls Try.prog 24 #[v] w (IntsPost w g.length fun o => ∀ b, b < g.length → G.IsC g b (o b)) := by
  have hP := Paths_any v g w hg hn
  obtain ⟨A, c, rfl, hc1, hc2, hrows⟩ := hg.parts
  have hm1 := maxLen_le hc2
  obtain ⟨n, e⟩ : ∃ n, g.length = n := ⟨_, rfl⟩
  have HN := Lib.hid e
  rw [e] at hn hc1 hg hP ⊢
  have CP := hide hP
  clear e hrows hg hc2 hP
  obtain ⟨i0, hi0, hz0, hz1, hz2⟩ := info_parts info3
  go_enter Try.func24, Try.ntmps24
  go_wp2_with fail
  refine (unhide CP).mono ?_
  rintro e w1 ⟨p, m, rfl, hb, hm, hW⟩
  rw [HN.out] at hm
  have hml : (matL n m).length = n := by simp [matL]
  obtain ⟨P, pc, rfl, hp1, hp2, hrows⟩ := hm.parts
  rw [hml] at hp1 ⊢
  have hm3 := maxLen_le hp2
  have HM := Lib.hid hrows; have HW := Lib.hid hW; have HB := Lib.hid hb
  clear hm hW hb hp2 hrows hml CP
  go_wp2_with fail
  go_loopw [4, 5] (fun v i wr => ∃ k : Nat, k ≤ n ∧ i = .int .i64 k ∧ Hid (∃ o : Nat → Int, wr.ownsRow w1.heap.size 3 1 v k (((List.range k).map o).map (.int .i64)) ∧ Below w1.heap.size w1 wr ∧ ∀ b, b < k → G.IsC g b (o b))) (fun _ i _ => n - (intOf i).toNat)
  case atStart => exact ⟨0, Nat.zero_le _, rfl, fun _ => 0, World.ownsRow_nil _ _ _ _, Below.refl _ _, fun b hb => absurd hb (by omega)⟩
  case round =>
    obtain ⟨k, hk, rfl, hI⟩ := hrel
    by_cases hlt : k < n
    · go_wp2_with fail
      have hma : (matL n m)[k]? = some ((List.range n).map fun b => m k b) := by simp [matL, hlt]
      obtain ⟨pd, pu, rfl, hpb, hpc, hpB⟩ := HM.out k _ hma
      obtain ⟨U, uc, rfl, hu1, hu2, hels2⟩ := hpB.parts
      have hum := maxLen_le hu2
      simp only [List.length_map, List.length_range] at hpc hu1
      have HU := Lib.hid hels2; have HPC := Lib.hid hpc
      clear hma hpB hu2 hels2 hpc
      go_loop [6, 7] (fun l b => ∃ (x : Nat) (j : Int), -1 ≤ j ∧ j < k ∧ x ≤ k ∧ l = .int .i64 x ∧ b = .int .i64 j ∧ Hid (G.LeastC g k (j + 1) x)) (fun _ b => (intOf b + 1).toNat)
      case atStart => exact ⟨k, (k : Int) - 1, by omega, by omega, by omega, rfl, rfl, by unfold G.LeastC; exact ⟨Nat.le_refl _, by omega, G.Mut.refl k, fun u h1 h2 => absurd h1 (by omega)⟩⟩
      case round =>
        obtain ⟨x, j, hj1, hj2, hxk, rfl, rfl, HL⟩ := hrel
        obtain ⟨o, hown, hBl, hC⟩ := hI.out
        by_cases h0 : 0 ≤ j
        · obtain ⟨q, rfl⟩ := ofNat_of h0
          have hqn : q < n := by omega
          have hmb : (matL n m)[q]? = some ((List.range n).map fun b => m q b) := by simp [matL, hqn]
          obtain ⟨pd', qu, hpe, hqb, hqc, hqB⟩ := HM.out q _ hmb
          injection hpe with hpe
          subst hpe
          obtain ⟨Q, qc, rfl, hq1, hq2, hels3⟩ := hqB.parts
          have hqm := maxLen_le hq2
          simp only [List.length_map, List.length_range] at hqc hq1
          obtain ⟨ud, rfl, hub, huc⟩ := HU.out q (m k q) (by simp [hqn])
          obtain ⟨vd, rfl, hvb, hvc⟩ := hels3 k (m q k) (by simp [hlt])
          have c1 : wr.cell? (pd.add k) = some (.slice (some ud) n uc) := ((Same.of_below hBl).cell (by rw [block_of_add]; exact hpb)).trans HPC.out
          have c2 : wr.cell? (pd.add q) = some (.slice (some vd) n qc) := ((Same.of_below hBl).cell (by rw [block_of_add]; exact hpb)).trans hqc
          have c3 : wr.cell? (ud.add q) = some (.bool (m k q)) := ((Same.of_below hBl).cell (by rw [block_of_add]; exact hub)).trans huc
          have c4 : wr.cell? (vd.add k) = some (.bool (m q k)) := ((Same.of_below hBl).cell (by rw [block_of_add]; exact hvb)).trans hvc
          have hmu := mut_of HW.out (a := k) (b := q) (by have := HN.out; omega) (by have := HN.out; omega) (by omega)
          have HMU := Lib.hid hmu
          obtain ⟨y, hy⟩ : ∃ y, m k q = y := ⟨_, rfl⟩
          obtain ⟨z, hz⟩ : ∃ z, m q k = z := ⟨_, rfl⟩
          rw [hy] at c3 HMU
          rw [hz] at c4 HMU
          clear hmb hqB hq2 hels3 hqc huc hvc hmu hown hBl hC hy hz h0
          cases y with
          | false =>
            go_wp2_with fail
            go_round
            case rel => exact ⟨x, (q : Int) - 1, by omega, by omega, hxk, rfl, rfl, by
              rw [show (q : Int) - 1 + 1 = q by omega]; exact least_no HL.out (fun h => by have := HMU.out.2 h; simp at this)⟩
            case measure => simp [intOf]
          | true =>
            cases z with
            | false =>
              go_wp2_with fail
              go_round
              case rel => exact ⟨x, (q : Int) - 1, by omega, by omega, hxk, rfl, rfl, by
                rw [show (q : Int) - 1 + 1 = q by omega]; exact least_no HL.out (fun h => by have := HMU.out.2 h; simp at this)⟩
              case measure => simp [intOf]
            | true =>
              go_wp2_with fail
              go_round
              case rel => exact ⟨q, (q : Int) - 1, by omega, by omega, by omega, rfl, rfl, by
                rw [show (q : Int) - 1 + 1 = q by omega]; exact least_yes HL.out (by omega) (HMU.out.1 rfl)⟩
              case measure => simp [intOf]
        · have HOW := Lib.hid hown; have HBl := Lib.hid hBl; have HC := Lib.hid hC
          have hsz := hBl.size
          clear hown hBl hC
          go_wp2_with (first
            | (at_builtin; refine wpList_append_lies _ rfl (.tmp 40) (.tmp 42) _ rfl w1.heap.size 3 i0 _ 1 8 Try.underlying23 hi0 hz0 hz1 hz2 rfl (by omega) u4 k _ rfl (HOW.out.alloc _) ⟨wr.heap.size, 0, none⟩ 1 1 [.int .i64 x] rfl rfl (cell_one_new _ _ _) (fun u hu => by simp at hu; subst hu; rfl) (by omega) (by unfold maxLen; omega) (by omega) (by simp; omega) (wr.heap.size + 1) (by simp) ?_))
          intro g2 cap w2 h1 h2 h3 h4
          have HF := Lib.hid (And.intro h1 h2)
          clear h1 h2 h3 h4
          go_wp2_with fail
          go_roundw
          case rel =>
            obtain ⟨h1, h2⟩ := HF.out
            refine ⟨k + 1, by omega, by go_num, (fun b => if b = k then (x : Int) else o b), ?_, ?_, fun b hb => ?_⟩
            · have e : ((List.range (k + 1)).map fun b => if b = k then (x : Int) else o b) = (List.range k).map o ++ [(x : Int)] := by
                rw [List.range_succ, List.map_append]
                congr 1
                · exact List.map_congr_left fun b hb => by rw [if_neg (by have := List.mem_range.1 hb; omega)]
                · simp
              rw [e, List.map_append]; simpa [List.map_map] using h1
            · exact (HBl.out.alloc hsz _).grown h2 (by simp; omega) (fun q hq => (HOW.out.lt q hq).1)
            · by_cases e : b = k
              · subst e; show G.IsC g b (if b = b then (x : Int) else o b); rw [if_pos rfl]
                have := HL.out
                rw [show j + 1 = 0 by omega] at this
                exact this.fin (by have := HN.out; omega)
              · show G.IsC g b (if b = k then (x : Int) else o b); rw [if_neg e]; exact HC.out b (by omega)
          case measure => simp [intOf]; omega
    · obtain ⟨o, hown, hBl, hC⟩ := hI.out
      have HOW := Lib.hid hown; have HBl := Lib.hid hBl; have HC := Lib.hid hC
      clear hown hBl hC hI
      go_wp2_with fail
      go_ret
      obtain rfl : k = n := by omega
      exact ⟨_, o, rfl, HB.out.trans (HBl.out.mono HB.out.size), Sl.of_own HOW.out, HC.out⟩
end Go.Proofs.Ytiebfnchimfjiaa
