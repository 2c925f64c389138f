/- digraph.Components: the walk. -/
import Derived.Test.YtiebfnchimfjiaaRefDist
import Derived.Test.YtiebfnchimfjiaaReach
import Derived.Test.YtiebfnchimfjiaaRev
import Derived.WalkMore
namespace Go.Proofs.Ytiebfnchimfjiaa
open Go.RowKit Go.Deep

theorem lit1 (w : World) (x : Int) : Ints (w.alloc (.cells #[.int .i64 x] 3)) (w.alloc (.cells #[.int .i64 x] 3)).heap.size (.slice (some ⟨w.heap.size, 0, none⟩) 1 1) [x] := by
  have := Sl.of_row (Row.new w 3 [.int .i64 x]) (B := (w.alloc (.cells #[.int .i64 x] 3)).heap.size) (by simp) (by simp [maxLen])
  exact this

theorem row_ne_bool {w : World} {R k : Nat} {o : Nat → Int} (h : RowI w R k o) {p : Addr} {b : Bool} (hp : w.cell? p = some (.bool b)) : p.block ≠ R := by
  intro e
  unfold RowI RowF Row at h
  rw [← e] at h
  simp only [World.cell?, h] at hp
  by_cases hs : p.spot.isSome = true
  · simp [hs] at hp
  · simp [hs] at hp

set_option maxHeartbeats 2000000 in
theorem Comp_any (v : Value) (g : List (List Int)) (w : World) (hg : Rows2 w w.heap.size v g) (hn : g.length ≤ 1000000) :
    Calls Try.prog 23 #[v] w (IntsPost w g.length fun o => ∀ b, b < g.length → G.IsC g b (o b)) := by
  have hRv := Reverse_any v g w hg hn
  obtain ⟨A, c, rfl, hc1, hc2, hrows⟩ := hg.parts
  have hm1 := maxLen_le hc2
  obtain ⟨n, e⟩ : ∃ n, g.length = n := ⟨_, rfl⟩
  have HN := Lib.hid e
  rw [e] at hn hc1 hg hRv ⊢
  have HG := Lib.hid hg
  have CRV := hide hRv
  clear e hrows hg hc2 hRv
  have hmk := fun W => run_make_row' (P := Try.prog) 23 3 (.int .i64 0) 8 Try.underlying23 info3 rfl .i64 .i64 n (by omega) (by omega) W
  go_enter Try.func23, Try.ntmps23
  go_wp2_with fail
  go_step3
  go_wp2_with fail
  refine (unhide CRV).mono ?_
  rintro e w1 ⟨back, rfl, hb1, hback⟩
  have HB1 := Lib.hid hb1; have HBK := Lib.hid hback
  have HG1 : Hid (Rows2 w1 w1.heap.size (.slice A n c) g) := (HG.out.same (Same.of_below hb1)).more hb1.size
  obtain ⟨BA, bc, rfl, hbc1, hbc2, _⟩ := hback.parts
  rw [G.rev_len, HN.out] at hbc1 HBK ⊢
  have hmb := maxLen_le hbc2
  clear hb1 hback hbc2 CRV
  go_wp2_with fail
  obtain ⟨w2, hw2⟩ : ∃ w2, w2 = w1.alloc (.cells (madeCells #[.int .i64 0] n) 3) := ⟨_, rfl⟩
  have hS : RowI w2 w1.heap.size n (fun b => if b < 0 then -1 else 0) ∧ Below w1.heap.size w1 w2 := by
    rw [hw2]; exact ⟨RowF.made w1 3 (.int .i64 0) n, (Below.refl _ _).alloc (Nat.le_refl _) _⟩
  have HS := Lib.hid hS
  rw [← hw2]
  clear hS hw2 hmk
  go_loopw [17] (fun i wr => ∃ k : Nat, k ≤ n ∧ i = .int .i64 k ∧ Hid (RowI wr w1.heap.size n (fun b => if b < k then -1 else 0) ∧ Below w1.heap.size w1 wr)) (fun i _ => n - (intOf i).toNat)
  case atStart => exact ⟨0, Nat.zero_le _, rfl, HS.out⟩
  case round =>
    clear HS
    obtain ⟨k, hk, rfl, hI⟩ := hrel
    obtain ⟨hR, hB⟩ := hI.out
    by_cases hlt : k < n
    · have hget := RowF.get hR hlt
      have hfr := RowF.free hR k
      have HR := Lib.hid hR; have HB := Lib.hid hB
      clear hR hB hI
      go_wp2_with fail
      go_roundw
      case rel => exact ⟨k + 1, by omega, by go_num, HR.out.store k (-1) (fun b _ => by by_cases e : b = k; · simp [e]
                                                                                        · simp [e]; congr 1; simp; omega), HB.out.setCell (Nat.le_refl _) _⟩
      case measure => simp [intOf]; omega
    · obtain rfl : k = n := by omega
      have HR := Lib.hid (hR.congr (o' := fun _ => -1) (fun b hb => by simp [hb])); have HB := Lib.hid hB
      clear hR hB hI
      go_wp2_with fail
      go_step3
      go_wp2_with fail
      go_loopw [26] (fun i wr => ∃ v : Nat, v ≤ k ∧ i = .int .i64 v ∧ Hid (∃ o, RowI wr w1.heap.size k o ∧ Below w1.heap.size w1 wr ∧ G.CInv g v o)) (fun i _ => k - (intOf i).toNat)
      case atStart => exact ⟨0, Nat.zero_le _, rfl, _, HR.out, HB.out, G.CInv.start fun _ => rfl⟩
      case round =>
        clear HR HB
        obtain ⟨v, hv, rfl, hI⟩ := hrel
        obtain ⟨o, hR, hB, hC⟩ := hI.out
        clear hI
        by_cases hvn : v < k
        · have hget := RowF.get hR hvn
          have hsz := RowF.lt hR
          obtain ⟨ov, hov⟩ : ∃ x, o v = x := ⟨_, rfl⟩
          rw [hov] at hget
          have HOV := Lib.hid hov
          have HR := Lib.hid hR; have HB := Lib.hid hB; have HC := Lib.hid hC
          clear hov hR hB hC
          by_cases h0 : 0 ≤ ov
          · go_wp2_with fail
            go_roundw
            case rel => exact ⟨v + 1, by omega, by go_num, o, HR.out, HB.out, HC.out.skip (by have := HN.out; omega) (by rw [HOV.out]; omega)⟩
            case measure => simp [intOf]; omega
          · have hov1 : ov = -1 := by
              rcases HC.out v (by have := HN.out; omega) with ⟨h1, _⟩ | ⟨⟨x, hx, _⟩, _⟩
              · rw [← HOV.out]; exact h1
              · rw [HOV.out] at hx; omega
            have HO1 := Lib.hid hov1
            clear hov1
            go_wp2_with fail
            obtain ⟨w3, hw3⟩ : ∃ w3, w3 = wr.alloc (.cells #[.int .i64 v] 3) := ⟨_, rfl⟩
            have hb3 : Below wr.heap.size wr w3 := by rw [hw3]; exact (Below.refl _ _).alloc (Nat.le_refl _) _
            have hl3 := lit1 wr v
            rw [← hw3] at hl3 ⊢
            clear hw3
            have hB13 : Below w1.heap.size w1 w3 := HB.out.trans (hb3.mono HB.out.size)
            have hR1 := Reach_any (.slice A k c) _ g [(v : Int)] w3 ((HG1.out.same (Same.of_below hB13)).more hB13.size) hl3 (by have := HN.out; omega)
            refine hR1.mono ?_
            rintro e w4 ⟨p, t, rfl, hb4, hp, hT⟩
            have HB3 := Lib.hid hb3; have HB4 := Lib.hid hb4; have HP := Lib.hid hp; have HT := Lib.hid hT
            clear hb3 hl3 hR1 hb4 hp hT hB13 hget
            go_wp2_with fail
            obtain ⟨w5, hw5⟩ : ∃ w5, w5 = w4.alloc (.cells #[.int .i64 v] 3) := ⟨_, rfl⟩
            have hb5 : Below w4.heap.size w4 w5 := by rw [hw5]; exact (Below.refl _ _).alloc (Nat.le_refl _) _
            have hl5 := lit1 w4 v
            rw [← hw5] at hl5 ⊢
            clear hw5
            have hB34 : Below wr.heap.size wr w4 := HB3.out.trans (HB4.out.mono HB3.out.size)
            have hB35 : Below wr.heap.size wr w5 := hB34.trans (hb5.mono hB34.size)
            have hB15 : Below w1.heap.size w1 w5 := HB.out.trans (hB35.mono HB.out.size)
            have hR2 := Reach_any (.slice BA k bc) _ (G.rev g) [(v : Int)] w5 ((HBK.out.same (Same.of_below hB15)).more hB15.size) hl5 (by rw [G.rev_len]; have := HN.out; omega)
            refine hR2.mono ?_
            rintro e w6 ⟨q, f, rfl, hb6, hq, hF⟩
            rw [G.rev_len, HN.out] at hq hF
            have hB36 : Below wr.heap.size wr w6 := hB35.trans (hb6.mono hB35.size)
            have hB16 : Below w1.heap.size w1 w6 := HB.out.trans (hB36.mono HB.out.size)
            have hp6 : Bools w6 w6.heap.size p ((List.range k).map t) := by
              have h1 : Below w4.heap.size w4 w6 := hb5.trans (hb6.mono hb5.size)
              have := HP.out; rw [HN.out] at this
              exact (this.same (Same.of_below h1)).more h1.size
            obtain ⟨P, pc, rfl, hp1, hp2, hpe⟩ := hp6.parts
            obtain ⟨Q, qc, rfl, hq1, hq2, hqe⟩ := hq.parts
            have hmp := maxLen_le hp2
            have hmq := maxLen_le hq2
            simp only [List.length_map, List.length_range] at hp1 hq1 ⊢
            have hR6 : RowI w6 w1.heap.size k o := Row.below HR.out hB36
            have hT2 : ∀ x, x < g.length → (t x = true ↔ G.Rs g v x) := fun x hx => by
              rw [HT.out x hx, G.Rch_one (by have := HN.out; omega)]
            have hF2 : ∀ x, x < g.length → (f x = true ↔ G.Rs g x v) := fun x hx => by
              have hvg : v < g.length := by have := HN.out; omega
              rw [hF x (by have := HN.out; omega), G.Rch_one (by rw [G.rev_len]; exact hvg), G.Rs_rev hvg hx]
            have HT2 := Lib.hid hT2; have HF2 := Lib.hid hF2; have HPE := Lib.hid hpe; have HQE := Lib.hid hqe
            have HI : Hid (RowI w6 w1.heap.size k (G.cset v 0 t f o) ∧ Below w1.heap.size w1 w6) := ⟨hR6.congr (fun b _ => by simp [G.cset]), hB16⟩
            clear hR2 hb6 hq hF hB36 hB16 hp6 hp2 hq2 hpe hqe hR6 hT2 hF2 hB34 hB35 hB15 hb5 hl5 hsz
            clear HR HB HP HT HB3 HB4
            go_wp2_with fail
            go_loopw [44] (fun i wr => ∃ j : Nat, j ≤ k ∧ i = .int .i64 j ∧ Hid (RowI wr w1.heap.size k (G.cset v j t f o) ∧ Below w1.heap.size w1 wr ∧ w6.grownBy wr (some w1.heap.size))) (fun i _ => k - (intOf i).toNat)
            case atStart => exact ⟨0, Nat.zero_le _, rfl, HI.out.1, HI.out.2, World.grownBy.refl _ _⟩
            case round =>
              obtain ⟨j, hj, rfl, hJ⟩ := hrel
              obtain ⟨hR, hB, hG⟩ := hJ.out
              clear hJ
              by_cases hjk : j < k
              · obtain ⟨pd, rfl, hpb, hpc⟩ := HPE.out j (t j) (by simp [hjk])
                obtain ⟨qd, rfl, hqb, hqc⟩ := HQE.out j (f j) (by simp [hjk])
                have hpc' : wr.cell? (pd.add j) = some (.bool (t j)) := hG.cell hpc (by simpa using row_ne_bool HI.out.1 hpc)
                have hqc' : wr.cell? (qd.add j) = some (.bool (f j)) := hG.cell hqc (by simpa using row_ne_bool HI.out.1 hqc)
                have hget := RowF.get hR hjk
                have hfr := RowF.free hR j
                have HY : (t j && f j) = true → Hid (RowI (wr.setCell ⟨w1.heap.size, j, none⟩ (.int .i64 v)) w1.heap.size k (G.cset v (j + 1) t f o) ∧ Below w1.heap.size w1 (wr.setCell ⟨w1.heap.size, j, none⟩ (.int .i64 v)) ∧ w6.grownBy (wr.setCell ⟨w1.heap.size, j, none⟩ (.int .i64 v)) (some w1.heap.size)) := by
                  intro h
                  refine ⟨hR.store j v (fun b _ => ?_), hB.setCell (Nat.le_refl _) _, hG.trans (grownBy_setCell _ _ _ _)⟩
                  unfold G.cset
                  by_cases e : b = j
                  · subst e; rw [if_pos ⟨Nat.lt_succ_self _, h⟩, if_pos rfl]
                  · rw [if_neg e]; congr 1; simp only [eq_iff_iff]; constructor
                    · rintro ⟨h1, h2⟩; exact ⟨by omega, h2⟩
                    · rintro ⟨h1, h2⟩; exact ⟨by omega, h2⟩
                have HN' : (t j && f j) = false → Hid (RowI wr w1.heap.size k (G.cset v (j + 1) t f o) ∧ Below w1.heap.size w1 wr ∧ w6.grownBy wr (some w1.heap.size)) := by
                  intro h
                  refine ⟨hR.congr (fun b _ => ?_), hB, hG⟩
                  unfold G.cset
                  congr 1; simp only [eq_iff_iff]; constructor
                  · rintro ⟨h1, h2⟩; exact ⟨by omega, h2⟩
                  · rintro ⟨h1, h2⟩
                    refine ⟨?_, h2⟩
                    by_cases e : b = j
                    · subst e; rw [h] at h2; cases h2
                    · omega
                have HY' := Lib.hid HY; have HN2 := Lib.hid HN'
                obtain ⟨x, hx⟩ : ∃ x, t j = x := ⟨_, rfl⟩
                obtain ⟨y, hy⟩ : ∃ y, f j = y := ⟨_, rfl⟩
                rw [hx, hy] at HY' HN2
                rw [hx] at hpc'
                rw [hy] at hqc'
                clear HY HN' hR hB hG hpc hqc hx hy
                cases x with
                | false =>
                  go_wp2_with fail
                  go_roundw
                  case rel => exact ⟨j + 1, by omega, by go_num, HN2.out rfl⟩
                  case measure => simp [intOf]; omega
                | true =>
                  cases y with
                  | false =>
                    go_wp2_with fail
                    go_roundw
                    case rel => exact ⟨j + 1, by omega, by go_num, HN2.out rfl⟩
                    case measure => simp [intOf]; omega
                  | true =>
                    go_wp2_with fail
                    go_roundw
                    case rel => exact ⟨j + 1, by omega, by go_num, HY'.out rfl⟩
                    case measure => simp [intOf]; omega
              · have HJ := Lib.hid (And.intro hR hB)
                clear hR hB hG
                go_wp2_with fail
                go_roundw
                case rel =>
                  obtain ⟨h1, h2⟩ := HJ.out
                  obtain rfl : j = k := by omega
                  refine ⟨v + 1, by omega, by go_num, _, h1, h2, ?_⟩
                  have h3 := HC.out.set_ (t := t) (f := f) (by have := HN.out; omega) (by rw [HOV.out]; exact HO1.out) HT2.out HF2.out
                  rw [HN.out] at h3; exact h3
                case measure => simp [intOf]; omega
        · go_wp2_with fail
          rw [Exit.noGoto_ret]
          go_ret
          refine ⟨_, o, rfl, HB1.out.trans (hB.mono HB1.out.size), hR.sl (by unfold maxLen; omega), fun b hb => ?_⟩
          obtain rfl : v = k := by omega
          have := HN.out; subst this
          exact hC.fin b hb
end Go.Proofs.Ytiebfnchimfjiaa
