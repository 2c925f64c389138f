/- The law of blanks. -/
import Derived.Test.YtmmbbndoimleaaaDoorGAL
import Derived.Test.YtmmbbndoimleaaaDoorGAJ

/- The law of blanks. -/
namespace Go.Proofs.YtmmbbndoimleaaaDoor
open Go.RowKit

set_option maxRecDepth 20000 in
set_option maxHeartbeats 2000000 in
theorem Blanks_law (S : ByteArray) (w : World) (ht : Tab w) :
    Calls Tryd.prog 5 #[.string S] w (JFine w) := by
  have HE := hide fun W (h : Below w.heap.size w W) => jexample_run W (tab_below ht h)
  clear ht
  by_cases hn : 300 < S.size
  · have g0 : (300 : Int) < (S.size : Int) := by omega
    go_enter Tryd.func5, Tryd.ntmps5
    go_wp2_with fail
    refine (HE.out _ (Below.refl _ _)).mono ?_; rintro e w1 ⟨rfl, hB1⟩
    go_wp2_with fail
    go_ret
    exact ⟨rfl, hB1⟩
  have hs : S.size ≤ 300 := by omega
  have g0 : ¬ (300 : Int) < (S.size : Int) := by omega
  have law1 := blanks_law hs
  have law2 := list_law hs
  have HP1 := hide fun W => Parse_run S W
  have HP2 := hide fun W => Parse_run (preB ++ S ++ sufB) W
  have HP3 := hide fun W => Parse_run (⟨#[91]⟩ ++ S ++ ⟨#[93]⟩) W
  have z2 : (preB ++ S ++ sufB).size + 1 ≤ 400 := by rw [bsize_append, bsize_append]; show 2 + _ + 3 + 1 ≤ _; omega
  have z3 : (⟨#[91]⟩ ++ S ++ ⟨#[93]⟩ : ByteArray).size + 1 ≤ 400 := by rw [bsize_append, bsize_append]; show 1 + _ + 1 + 1 ≤ _; omega
  obtain ⟨p1, hp1⟩ : ∃ p, p = parseF S := ⟨_, rfl⟩
  obtain ⟨p2, hp2⟩ : ∃ p, p = parseF (preB ++ S ++ sufB) := ⟨_, rfl⟩
  obtain ⟨p3, hp3⟩ : ∃ p, p = parseF (⟨#[91]⟩ ++ S ++ ⟨#[93]⟩) := ⟨_, rfl⟩
  rw [← hp1] at HP1 law1 law2
  rw [← hp2] at HP2 law1
  rw [← hp3] at HP3 law2
  obtain ⟨r1, e1, a1⟩ := p1
  obtain ⟨r2, e2, a2⟩ := p2
  obtain ⟨r3, e3, a3⟩ := p3
  unfold ParsePost datV datCs at HP1 HP2 HP3
  simp only at HP1 HP2 HP3
  have HZ := hide (And.intro z2 z3)
  have HL := hide (And.intro law1 law2)
  unfold preB sufB at HP2
  clear hp1 hp2 hp3 law1 law2 hn z2 z3
  go_enter Tryd.func5, Tryd.ntmps5
  go_wp2_with fail
  refine (HP1.out _).mono ?_; rintro e w1 ⟨b1, q1, b1', q1', rfl, hP1, hB1⟩
  have HB1 := hide hB1
  have HQ1 := hide hP1.parts
  clear hP1 hB1 HP1
  go_upto_region 4 with fail
  obtain ⟨w2, g2, f2, k1, k2, k3, hB2, hR2, hF2⟩ := boxDF w1 (kD r1) (nD r1) (sD r1) (.slice b1 (iD r1).length q1) (.slice b1' (mD r1).length q1') e1 a1
  rw [k1, k2, show g2 + 1 = f2 by omega]
  have HB2 := hide (HB1.out.trans (hB2.mono HB1.out.size))
  have HR2 := hide (And.intro hR2 hF2)
  have HQ2 := hide (HQ1.out.turn (Same.of_below hB2) hB2.size)
  clear k1 k2 k3 hB2 hR2 hF2 HB1 HQ1
  go_wp2_with fail
  refine (HP2.out _).mono ?_; rintro e w3 ⟨b3, q3, b3', q3', rfl, hP3, hB3⟩
  have HB3 := hide (HB2.out.trans (hB3.mono HB2.out.size))
  have HR3 := hide (And.intro (HR2.out.1.below hB3) (HR2.out.2.below hB3))
  have HQ3 := hide (And.intro (HQ2.out.turn (Same.of_below hB3) hB3.size) hP3.parts)
  clear hP3 hB3 HP2 HB2 HR2 HQ2
  go_upto_region 5 with fail
  obtain ⟨w4, g4, f4, k1, k2, k3, hB4, hR4, hF4⟩ := boxDF w3 (kD r2) (nD r2) (sD r2) (.slice b3 (iD r2).length q3) (.slice b3' (mD r2).length q3') e2 a2
  rw [k1, k2, show g4 + 1 = f4 by omega]
  have HB4 := hide (HB3.out.trans (hB4.mono HB3.out.size))
  have HR4 := hide (And.intro (And.intro (HR3.out.1.below hB4) (HR3.out.2.below hB4)) (And.intro hR4 hF4))
  have HQ4 := hide (And.intro (HQ3.out.1.turn (Same.of_below hB4) hB4.size) (HQ3.out.2.turn (Same.of_below hB4) hB4.size))
  clear k1 k2 k3 hB4 hR4 hF4 HB3 HR3 HQ3
  go_wp2_with fail
  refine (HP3.out _).mono ?_; rintro e w5 ⟨b5, q5, b5', q5', rfl, hP5, hB5⟩
  have HB5 := hide (HB4.out.trans (hB5.mono HB4.out.size))
  have HR5 := hide (And.intro (And.intro (HR4.out.1.1.below hB5) (HR4.out.1.2.below hB5)) (And.intro (HR4.out.2.1.below hB5) (HR4.out.2.2.below hB5)))
  have HQ5 := hide (And.intro (And.intro (HQ4.out.1.turn (Same.of_below hB5) hB5.size) (HQ4.out.2.turn (Same.of_below hB5) hB5.size)) hP5.parts)
  clear hP5 hB5 HP3 HB4 HR4 HQ4
  go_upto_region 6 with fail
  obtain ⟨w6, g6, f6, k1, k2, k3, hB6, hR6, hF6⟩ := boxDF w5 (kD r3) (nD r3) (sD r3) (.slice b5 (iD r3).length q5) (.slice b5' (mD r3).length q5') e3 a3
  rw [k1, k2, show g6 + 1 = f6 by omega]
  have HB6 := hide (HB5.out.trans (hB6.mono HB5.out.size))
  have HR6 := hide fun W (h : Below w6.heap.size w6 W) => And.intro (And.intro ((HR5.out.1.1.below hB6).below h) ((HR5.out.1.2.below hB6).below h)) (And.intro (And.intro ((HR5.out.2.1.below hB6).below h) ((HR5.out.2.2.below hB6).below h)) (And.intro (hR6.below h) (hF6.below h)))
  have HQ6 := hide fun W (h : Below w6.heap.size w6 W) => And.intro (And.intro (((HQ5.out.1.1.turn (Same.of_below hB6) hB6.size).turn (Same.of_below h) h.size).le (Nat.le_trans (by omega : S.size + 1 ≤ 400) (Nat.le_refl 400))) (((HQ5.out.1.2.turn (Same.of_below hB6) hB6.size).turn (Same.of_below h) h.size).le HZ.out.1)) (((HQ5.out.2.turn (Same.of_below hB6) hB6.size).turn (Same.of_below h) h.size).le HZ.out.2)
  clear k1 k2 k3 hB6 hR6 hF6 HB5 HR5 HQ5
  by_cases hz : e1 = 0 ∧ a1 = 0
  · obtain ⟨rfl, rfl⟩ := hz
    obtain ⟨l1, l2⟩ := HL.out
    obtain ⟨l3, l4⟩ := l1.1 rfl
    have l3 : (e2, a2) = (0, 0) := l3
    have l4 : r2 = r1 := l4
    injection l3 with m1 m2
    subst m1 m2 l4
    have HSM := hide fun W (h : Below w6.heap.size w6 W) => (show Calls Tryd.prog 9 #[.agg #[.int .i64 (kD r2), .int .i64 (nD r2), .string (sD r2), .slice b3 (iD r2).length q3, .slice b3' (mD r2).length q3'], .agg #[.int .i64 (kD r2), .int .i64 (nD r2), .string (sD r2), .slice b1 (iD r2).length q1, .slice b1' (mD r2).length q1']] W fun e w' => e = .returned (.bool true) ∧ Below W.heap.size W w' from by
      have := same_run 400 r2 b3 q3 b3' q3' r2 b1 q1 b1' q1' W (HQ6.out W h).1.2 (HQ6.out W h).1.1
      rw [same_self] at this
      exact this)
    rcases l2 rfl with ⟨l5, l6⟩ | ⟨l5, l6⟩
    · have l5 : (e3, a3) = (9, 0) := l5
      have l6 : r3 = zeroD := l6
      injection l5 with m1 m2
      subst m1 m2
      have h3 : (iD r3).length = 0 := by rw [l6]; rfl
      rw [h3] at HR6
      rw [h3]
      clear HL l1 l2 l5 l6 h3
      obtain ⟨⟨x1, x2⟩, ⟨x3, x4⟩, ⟨x5, x6⟩⟩ := HR6.out _ (Below.refl _ _)
      have y0 : w6.cell? ⟨f2, 0, none⟩ = some (.int .i64 0) := x2.cell 0
      have y1 : w6.cell? ⟨f2, 1, none⟩ = some (.int .i64 0) := x2.cell 1
      have y2 : w6.cell? ⟨g6, 3, none⟩ = some (.slice b5 0 q5) := x5.cell 3
      clear x1 x2 x3 x4 x5 x6
      go_wp2_with fail
      go_quiet (fail)
      obtain ⟨wq, hwq⟩ : ∃ W, W = w6.drewN nq := ⟨_, rfl⟩
      have hBq : Below w6.heap.size w6 wq := by rw [hwq]; exact below_drewN (Below.refl _ _) _
      rw [← hwq]
      clear hwq y0 y1 y2
      have HBq := hide (HB6.out.trans (hBq.mono HB6.out.size))
      obtain ⟨⟨x1, x2⟩, ⟨x3, x4⟩, ⟨x5, x6⟩⟩ := HR6.out _ hBq
      obtain ⟨z0, z1, z2, z3, z4⟩ := row5 x1
      obtain ⟨u0, u1, u2, u3, u4⟩ := row5 x3
      have y3 : wq.cell? ⟨f4, 0, none⟩ = some (.int .i64 0) := x4.cell 0
      have y4 : wq.cell? ⟨f4, 1, none⟩ = some (.int .i64 0) := x4.cell 1
      have y5 : wq.cell? ⟨f6, 0, none⟩ = some (.int .i64 9) := x6.cell 0
      have y6 : wq.cell? ⟨f6, 1, none⟩ = some (.int .i64 0) := x6.cell 1
      clear x1 x2 x3 x4 x5 x6
      go_wp2_with fail
      refine (HSM.out _ hBq).mono ?_; rintro e w8 ⟨rfl, hB8⟩
      obtain ⟨⟨x1, x2⟩, ⟨x3, x4⟩, ⟨x5, x6⟩⟩ := HR6.out w8 (hBq.trans (hB8.mono hBq.size))
      have v5 : w8.cell? ⟨f6, 0, none⟩ = some (.int .i64 9) := x6.cell 0
      have v6 : w8.cell? ⟨f6, 1, none⟩ = some (.int .i64 0) := x6.cell 1
      have HB8 := hide (HBq.out.trans (hB8.mono HBq.out.size))
      clear x1 x2 x3 x4 x5 x6 HSM HR6 hB8
      clear z0 z1 z2 z3 z4 u0 u1 u2 u3 u4 y3 y4 y5 y6
      have HX := hide (HE.out _ HB8.out)
      go_wp2_with fail
      refine HX.out.mono ?_; rintro e w9 ⟨rfl, hB9⟩
      have HB9 := hide (HB8.out.trans (hB9.mono HB8.out.size))
      clear hB9 HX
      go_wp2_with fail
      go_ret
      exact ⟨rfl, HB9.out⟩
    · have l5 : (e3, a3) = (0, 0) := l5
      have l6 : iD r3 = [r2] := l6
      injection l5 with m1 m2
      subst m1 m2
      have h3 : (iD r3).length = 1 := by rw [l6]; rfl
      have hp3 := (HQ6.out _ (Below.refl _ _)).2
      obtain ⟨_, hI, _⟩ := hp3
      obtain ⟨ad, rfl, hadb, ja, jq, ja', jq', hfive, hpts⟩ := hI 0 r2 (by rw [l6]; rfl)
      rw [h3] at HR6
      rw [h3]
      have ead : ad.add (0 * 5) = ad := by unfold Addr.add; simp
      rw [ead] at hfive
      have HFV := hide fun W (h : Below w6.heap.size w6 W) => hfive.same hadb (Same.of_below h)
      clear ead
      have HSI := hide fun W (h : Below w6.heap.size w6 W) => (show Calls Tryd.prog 9 #[.agg #[.int .i64 (kD r2), .int .i64 (nD r2), .string (sD r2), .slice ja (iD r2).length jq, .slice ja' (mD r2).length jq'], .agg #[.int .i64 (kD r2), .int .i64 (nD r2), .string (sD r2), .slice b1 (iD r2).length q1, .slice b1' (mD r2).length q1']] W fun e w' => e = .returned (.bool true) ∧ Below W.heap.size W w' from by
        have := same_run 400 r2 ja jq ja' jq' r2 b1 q1 b1' q1' W ((hpts.turn (Same.of_below h) h.size).le (show 399 ≤ 400 by omega)) (HQ6.out W h).1.1
        rw [same_self] at this
        exact this)
      clear HL l1 l2 l5 l6 h3 hI hfive hpts HQ6
      obtain ⟨⟨x1, x2⟩, ⟨x3, x4⟩, ⟨x5, x6⟩⟩ := HR6.out _ (Below.refl _ _)
      have y0 : w6.cell? ⟨f2, 0, none⟩ = some (.int .i64 0) := x2.cell 0
      have y1 : w6.cell? ⟨f2, 1, none⟩ = some (.int .i64 0) := x2.cell 1
      have y2 : w6.cell? ⟨g6, 3, none⟩ = some (.slice (some ad) 1 q5) := x5.cell 3
      clear x1 x2 x3 x4 x5 x6
      go_wp2_with fail
      have HSS := hide fun W (h : Below w6.heap.size w6 W) => And.intro (HR6.out W h).2.2.1 (And.intro (HFV.out W h) (row5 (HR6.out W h).1.1))
      refine wp_region_any (by kernel_rfl) (wpAny_of_held (S := fun W => W.cell? ⟨g6, 3, none⟩ = some (.slice (some ad) 1 q5) ∧ Five W ad r2 ja jq ja' jq' ∧ (W.cell? ⟨g2, 0, none⟩ = some (.int .i64 (kD r2)) ∧ W.cell? ⟨g2, 1, none⟩ = some (.int .i64 (nD r2)) ∧ W.cell? ⟨g2, 2, none⟩ = some (.string (sD r2)) ∧ W.cell? ⟨g2, 3, none⟩ = some (.slice b1 (iD r2).length q1) ∧ W.cell? ⟨g2, 4, none⟩ = some (.slice b1' (mD r2).length q1'))) _ _ _ _ ?_)
      unfold Five
      change wpAnyH _ _ _ _ _ _ _ _ w6.drew
      obtain ⟨wd, hwd⟩ : ∃ W, W = w6.drew := ⟨_, rfl⟩
      have hBd : Below w6.heap.size w6 wd := by rw [hwd]; exact (Below.refl _ _).drew
      have HS2 := hide fun W (h : Below wd.heap.size wd W) => (show W.cell? ⟨g6, 3, none⟩ = some (.slice (some ad) 1 q5) ∧ Five W ad r2 ja jq ja' jq' ∧ _ from ⟨(HSS.out W (hBd.trans (h.mono hBd.size))).1.cell 3, (HSS.out W (hBd.trans (h.mono hBd.size))).2⟩)
      unfold Five at HS2
      have hH := HS2.out wd (Below.refl _ _)
      rw [← hwd]
      clear hwd y0 y1 y2
      refine takeH (i := 0) (v := ?_) rfl (by kernel_rfl) (by kernel_rfl) (by kernel_rfl) (fun _ _ _ h => h) (Or.inl ⟨by rfl, ?_⟩) hH ?_
      rotate_left
      · (intro w hSw; (try dsimp only at hSw); go_simp; try with_reducible rfl)
      simp only [Act.put, List.setIfInBounds_toArray, List.set_cons_zero, List.set_cons_succ]
      refine takeH (i := 1) (v := ?_) rfl (by kernel_rfl) (by kernel_rfl) (by kernel_rfl) (fun _ _ _ h => h) (Or.inl ⟨by rfl, ?_⟩) hH ?_
      rotate_left
      · (intro w hSw; (try dsimp only at hSw); go_simp; try with_reducible rfl)
      simp only [Act.put, List.setIfInBounds_toArray, List.set_cons_zero, List.set_cons_succ]
      refine takeH (i := 2) (v := ?_) rfl (by kernel_rfl) (by kernel_rfl) (by kernel_rfl) (fun _ _ _ h => h) (Or.inl ⟨by rfl, ?_⟩) hH ?_
      rotate_left
      · (intro w hSw; (try dsimp only at hSw); go_simp; try with_reducible rfl)
      simp only [Act.put, List.setIfInBounds_toArray, List.set_cons_zero, List.set_cons_succ]
      refine takeH (i := 3) (v := ?_) rfl (by kernel_rfl) (by kernel_rfl) (by kernel_rfl) (fun _ _ _ h => h) (Or.inl ⟨by rfl, ?_⟩) hH ?_
      rotate_left
      · (intro w hSw; (try dsimp only at hSw); go_simp; try with_reducible rfl)
      simp only [Act.put, List.setIfInBounds_toArray, List.set_cons_zero, List.set_cons_succ]
      refine takeH (i := 4) (v := ?_) rfl (by kernel_rfl) (by kernel_rfl) (by kernel_rfl) (fun _ _ _ h => h) (Or.inl ⟨by rfl, ?_⟩) hH ?_
      rotate_left
      · (intro w hSw; (try dsimp only at hSw); go_simp; try with_reducible rfl)
      simp only [Act.put, List.setIfInBounds_toArray, List.set_cons_zero, List.set_cons_succ]
      refine takeH (i := 5) (v := ?_) rfl (by kernel_rfl) (by kernel_rfl) (by kernel_rfl) (fun _ _ _ h => h) (Or.inl ⟨by rfl, ?_⟩) hH ?_
      rotate_left
      · (intro w hSw; (try dsimp only at hSw); go_simp; try with_reducible rfl)
      simp only [Act.put, List.setIfInBounds_toArray, List.set_cons_zero, List.set_cons_succ]
      refine takeH (i := 6) (v := ?_) rfl (by kernel_rfl) (by kernel_rfl) (by kernel_rfl) (fun _ _ _ h => h) (Or.inl ⟨by rfl, ?_⟩) hH ?_
      rotate_left
      · (intro w hSw; (try dsimp only at hSw); go_simp; try with_reducible rfl)
      simp only [Act.put, List.setIfInBounds_toArray, List.set_cons_zero, List.set_cons_succ]
      refine takeH (i := 7) (v := ?_) rfl (by kernel_rfl) (by kernel_rfl) (by kernel_rfl) (fun _ _ _ h => h) (Or.inl ⟨by rfl, ?_⟩) hH ?_
      rotate_left
      · (intro w hSw; (try dsimp only at hSw); go_simp; try with_reducible rfl)
      simp only [Act.put, List.setIfInBounds_toArray, List.set_cons_zero, List.set_cons_succ]
      refine takeH (i := 8) (v := ?_) rfl (by kernel_rfl) (by kernel_rfl) (by kernel_rfl) (fun _ _ _ h => h) (Or.inl ⟨by rfl, ?_⟩) hH ?_
      rotate_left
      · (intro w hSw; (try dsimp only at hSw); go_simp; try with_reducible rfl)
      simp only [Act.put, List.setIfInBounds_toArray, List.set_cons_zero, List.set_cons_succ]
      refine takeH (i := 9) (v := ?_) rfl (by kernel_rfl) (by kernel_rfl) (by kernel_rfl) (fun _ _ _ h => h) (Or.inl ⟨by rfl, ?_⟩) hH ?_
      rotate_left
      · (intro w hSw; (try dsimp only at hSw); go_simp; try with_reducible rfl)
      simp only [Act.put, List.setIfInBounds_toArray, List.set_cons_zero, List.set_cons_succ]
      refine oneH (i := 10) rfl (by kernel_rfl) (fun K hK => ?_)
      go_simp
      go_at_call 9
      refine (HSI.out wd hBd).mono ?_; rintro e w7 ⟨rfl, hB7⟩
      refine hK.out _ _ (HS2.out w7 hB7) (fun hH => ?_)
      clear hK K
      refine takeH (i := 11) (v := ?_) rfl (by kernel_rfl) (by kernel_rfl) (by kernel_rfl) (fun _ _ _ h => h) (Or.inl ⟨by rfl, ?_⟩) hH ?_
      rotate_left
      · (intro w hSw; (try dsimp only at hSw); go_simp; try with_reducible rfl)
      simp only [Act.put, List.setIfInBounds_toArray, List.set_cons_zero, List.set_cons_succ]
      refine oneH (i := 12) rfl (by kernel_rfl) (fun K hK => ?_)
      go_simp
      refine hK.out _ _ (HS2.out w7 hB7) (fun hH => ?_)
      clear hK K
      refine wpAnyH_done (by kernel_rfl) ?_ _
      have hBB := hBd.trans (hB7.mono hBd.size)
      have HBB := hide (HB6.out.trans (hBB.mono HB6.out.size))
      obtain ⟨⟨x1, x2⟩, ⟨x3, x4⟩, ⟨x5, x6⟩⟩ := HR6.out _ hBB
      obtain ⟨z0, z1, z2, z3, z4⟩ := row5 x1
      obtain ⟨u0, u1, u2, u3, u4⟩ := row5 x3
      have y3 : w7.cell? ⟨f4, 0, none⟩ = some (.int .i64 0) := x4.cell 0
      have y4 : w7.cell? ⟨f4, 1, none⟩ = some (.int .i64 0) := x4.cell 1
      have y5 : w7.cell? ⟨f6, 0, none⟩ = some (.int .i64 0) := x6.cell 0
      have y6 : w7.cell? ⟨f6, 1, none⟩ = some (.int .i64 0) := x6.cell 1
      clear x1 x2 x3 x4 x5 x6 hH HSS HS2 HSI HFV hB7 hBd
      go_wp2_with fail
      refine (HSM.out _ hBB).mono ?_; rintro e w8 ⟨rfl, hB8⟩
      obtain ⟨⟨x1, x2⟩, ⟨x3, x4⟩, ⟨x5, x6⟩⟩ := HR6.out w8 (hBB.trans (hB8.mono hBB.size))
      have v5 : w8.cell? ⟨f6, 0, none⟩ = some (.int .i64 0) := x6.cell 0
      have v6 : w8.cell? ⟨f6, 1, none⟩ = some (.int .i64 0) := x6.cell 1
      have HB8 := hide (HBB.out.trans (hB8.mono HBB.out.size))
      clear x1 x2 x3 x4 x5 x6 HSM HR6 hB8 z0 z1 z2 z3 z4 u0 u1 u2 u3 u4 y3 y4 y5 y6
      have HX := hide (HE.out _ HB8.out)
      go_wp2_with fail
      refine HX.out.mono ?_; rintro e w9 ⟨rfl, hB9⟩
      have HB9 := hide (HB8.out.trans (hB9.mono HB8.out.size))
      clear hB9 HX
      go_wp2_with fail
      go_ret
      exact ⟨rfl, HB9.out⟩
  · obtain ⟨l1, _⟩ := HL.out
    have hne : ((e1, a1) : Flt) ≠ (0, 0) := fun h => hz ⟨congrArg Prod.fst h, congrArg Prod.snd h⟩
    obtain ⟨⟨l2, l3⟩, l4, l5⟩ := l1.2 hne
    have l2 : 0 ≤ a1 := l2
    have l3 : a1 ≤ (S.size : Int) := l3
    have l4 : e1 = 9 ∨ a1 = (S.size : Int) → e2 ≠ 0 := l4
    have l5 : ¬ (e1 = 9 ∨ a1 = (S.size : Int)) → (e2, a2) = (e1, a1 + 2) := l5
    have HCMP := hide (show (e1 == 0) = false ∨ e1 = 0 ∧ (a1 == 0) = false by
      by_cases h : e1 = 0
      · right; exact ⟨h, by simp; omega⟩
      · left; simpa using h)
    obtain ⟨⟨x1, x2⟩, ⟨x3, x4⟩, ⟨x5, x6⟩⟩ := HR6.out _ (Below.refl _ _)
    have y0 : w6.cell? ⟨f2, 0, none⟩ = some (.int .i64 e1) := x2.cell 0
    have y1 : w6.cell? ⟨f2, 1, none⟩ = some (.int .i64 a1) := x2.cell 1
    have y3 : w6.cell? ⟨f4, 0, none⟩ = some (.int .i64 e2) := x4.cell 0
    have y4 : w6.cell? ⟨f4, 1, none⟩ = some (.int .i64 a2) := x4.cell 1
    clear x1 x2 x3 x4 x5 x6 HR6 HQ6 HL l1 hne hz
    have HX := hide (HE.out _ HB6.out)
    by_cases c1 : e1 = 9
    · have hne2 : e2 ≠ 0 := l4 (.inl c1)
      subst c1
      have d1 : (e2 != 0) = true := by simpa using hne2
      clear l4 l5 hne2
      go_wp2_with fail
      refine HX.out.mono ?_; rintro e w9 ⟨rfl, hB9⟩
      have HB9 := hide (HB6.out.trans (hB9.mono HB6.out.size))
      clear hB9 HX
      go_wp2_with fail
      go_ret
      exact ⟨rfl, HB9.out⟩
    · have d0 : (e1 == 9) = false := by simpa using c1
      by_cases c2 : a1 = (S.size : Int)
      · have hne2 : e2 ≠ 0 := l4 (.inr c2)
        subst c2
        have d1 : (e2 != 0) = true := by simpa using hne2
        have hcm := HCMP.out
        clear l4 l5 hne2 c1 HCMP
        rcases hcm with hcm | ⟨rfl, hcm⟩
        all_goals
          go_wp2_with fail
          refine HX.out.mono ?_; rintro e w9 ⟨rfl, hB9⟩
          have HB9 := hide (HB6.out.trans (hB9.mono HB6.out.size))
          clear hB9 HX
          go_wp2_with fail
          go_ret
          exact ⟨rfl, HB9.out⟩
      · have d2 : (a1 == (S.size : Int)) = false := by simpa using c2
        have l6 := l5 (by omega)
        injection l6 with m1 m2
        subst m1 m2
        have hwr : IntKind.i64.wrap (a1 + 2) = a1 + 2 := IntWalk.i64_in _ (by omega)
        have hcm := HCMP.out
        clear l4 l5 c1 c2 HCMP
        rcases hcm with hcm | ⟨rfl, hcm⟩
        all_goals
          go_wp2_with fail
          refine HX.out.mono ?_; rintro e w9 ⟨rfl, hB9⟩
          have HB9 := hide (HB6.out.trans (hB9.mono HB6.out.size))
          clear hB9 HX
          go_wp2_with fail
          go_ret
          exact ⟨rfl, HB9.out⟩
end Go.Proofs.YtmmbbndoimleaaaDoor
