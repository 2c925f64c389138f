/- common: the walk. -/
import Derived.Test.YtbfgnafpianliaaCn
namespace Go.Proofs.Ytbfgnafpianliaa
open Go.RowKit

set_option maxHeartbeats 2000000 in
set_option maxRecDepth 100000 in
theorem common_run : ∀ (n : Nat) (a b : List ByteArray) (u v : Value) (i j : Nat) (w : World), Strs w w.heap.size u a → Strs w w.heap.size v b → a.length ≤ n → a.length ≤ 1000000 → b.length ≤ 1000000 → i ≤ 1000000000 - a.length → j ≤ 1000000000 - b.length →
    Calls Try.prog 30 #[u, v, .agg #[.int .i64 i, .int .i64 j]] w (PairsPost w (commonF n a b i j)) := by
  intro n
  induction n with
  | zero =>
    intro a b u v i j w hu hv hn ha hb hi hj
    have ha0 : a = [] := List.eq_nil_of_length_eq_zero (by omega)
    subst ha0
    obtain ⟨A, c, rfl, hc1, hc2, hels⟩ := hu.parts
    have hm := maxLen_le hc2
    clear hels hc2 hu hv
    go_enter Try.func30, Try.ntmps30
    go_wp2
    go_step3
    go_wp2
    go_ret
    exact ⟨_, rfl, below_al (Below.refl _ _) _, World.ownsRow_nil _ _ _ _⟩
  | succ n ih =>
    intro a b u v i j w hu hv hn ha hb hi hj
    obtain ⟨A, c, rfl, hc1, hc2, hels⟩ := hu.parts
    obtain ⟨A', c', rfl, hc1', hc2', hels'⟩ := hv.parts
    have hm := maxLen_le hc2
    have hm' := maxLen_le hc2'
    by_cases h0 : a.length = 0
    · have hr : commonF (n + 1) a b i j = [] := by unfold commonF; rw [if_pos h0]
      rw [hr]
      rw [h0] at hc1 hu ⊢
      clear hr h0 hels hels' hc2 hc2' hu hv hn
      go_enter Try.func30, Try.ntmps30
      go_wp2
      go_step3
      go_wp2
      go_ret
      exact ⟨_, rfl, below_al (Below.refl _ _) _, World.ownsRow_nil _ _ _ _⟩
    by_cases h1 : a.length = 1
    · exact common_one n a b _ _ i j w hu hv h1 hb hj
    · have IH := hide ih
      obtain ⟨la, hla⟩ : ∃ n, n = a.length := ⟨_, rfl⟩
      obtain ⟨lb, hlb⟩ : ∃ n, n = b.length := ⟨_, rfl⟩
      obtain ⟨q, hh⟩ : ∃ h, h = la / 2 := ⟨_, rfl⟩
      have hdiv : Int.tdiv (la : Int) 2 = (q : Int) := by rw [hh]; rfl
      obtain ⟨x0, hx0⟩ : ∃ x, a[0]? = some x := ⟨_, List.getElem?_eq_getElem (by omega)⟩
      obtain ⟨ad, rfl, hbb, _⟩ := hels 0 _ hx0
      have hhn : q ≤ la := by omega
      have hhn' : (q : Int) ≤ la := by omega
      have hq1 : 1 ≤ q := by omega
      have hq2 : q < la := by omega
      have hch : ¬ c = q := by omega
      have e1 : ((la : Int) == 1) = false := by simp; omega
      have e2 : ((la : Int) == 0) = false := by simp; omega
      clear hels hels'
      have HU := hide hu; have HV := hide hv
      clear hu hv ih
      rw [← hla] at hc1 HU hi ha hn ⊢
      rw [← hlb] at hc1' HV hj hb ⊢
      have HLA := Lib.hid hla; have HLB := Lib.hid hlb
      have HH := Lib.hid hh
      have HTL : Hid ((a.take q).length = q ∧ (a.drop q).length = la - q) := hide ⟨by rw [List.length_take]; omega, by rw [List.length_drop]; omega⟩
      have hdl : (a.drop q).reverse.length ≤ 1000000 ∧ (a.drop q).length ≤ 1000000 ∧ (a.take q).length ≤ 1000000 ∧ b.length ≤ 1000000 ∧ b.reverse.length ≤ 1000000 := by
        rw [List.length_reverse, List.length_reverse, List.length_drop, List.length_take]; omega
      have HDL := hide hdl
      clear hla hlb hh h0 h1 hx0 hdl
      go_enter Try.func30, Try.ntmps30
      go_wp2_with fail
      obtain ⟨w1, hw1⟩ : ∃ w1, w1 = w.alloc (Obj.cells #[Value.int IntKind.i64 (i : Int), Value.int IntKind.i64 (j : Int)] 49) := ⟨_, rfl⟩
      obtain ⟨t, ht⟩ : ∃ t, t = w.heap.size := ⟨_, rfl⟩
      have c0 : w1.cell? ⟨t, 0, none⟩ = some (.int .i64 i) := by rw [hw1, ht]; simp
      have c1 : w1.cell? ⟨t, 1, none⟩ = some (.int .i64 j) := by rw [hw1, ht]; simp
      have htl : t < w1.heap.size := by rw [hw1, ht]; simp
      have HB1 := hide (show Below w.heap.size w w1 by rw [hw1]; exact below_al (Below.refl _ _) _)
      rw [← hw1, ← ht]
      have HT := Lib.hid ht
      clear hw1 ht
      go_step3
      have HU1 := hide ((HU.out.same (Same.of_below HB1.out)).more HB1.out.size)
      have HV1 := hide ((HV.out.same (Same.of_below HB1.out)).more HB1.out.size)
      have HL1 := hide (lengths_run _ _ _ _ w1 (HU1.out.take hhn) HV1.out HDL.out.2.2.1 HDL.out.2.2.2.1)
      go_wp2_with fail
      refine (unhide HL1).mono ?_; rintro e w2 ⟨u1, rfl, hB2, hS1⟩
      have HS1 := hide hS1
      have c0 := (hB2.cell (p := ⟨t, 0, none⟩) htl).trans c0
      have c1 := (hB2.cell (p := ⟨t, 1, none⟩) htl).trans c1
      have HU2 := hide ((HU1.out.same (Same.of_below hB2)).more hB2.size)
      have HV2 := hide ((HV1.out.same (Same.of_below hB2)).more hB2.size)
      have HB2 := hide (Below.trans HB1.out (hB2.mono HB1.out.size))
      have htl := Nat.lt_of_lt_of_le htl hB2.size
      clear hB2 hS1 HL1 HB1 HU1 HV1
      have HR1 := hide (reversed_run (.slice (some (ad.add q)) (la - q) (c - q)) (a.drop q) w2 (HU2.out.drop hhn (fun _ ad' e => by injection e with e; subst e; rfl)) (by have := HDL.out.2.1; omega))
      go_wp2_with fail
      refine (unhide HR1).mono ?_; rintro e w3 ⟨u2, rfl, hB3, hS2⟩
      have HS1 := hide (Sl.more (Sl.same HS1.out (Same.of_below hB3)) hB3.size)
      have c0 := (hB3.cell (p := ⟨t, 0, none⟩) htl).trans c0
      have c1 := (hB3.cell (p := ⟨t, 1, none⟩) htl).trans c1
      have HU3 := hide ((HU2.out.same (Same.of_below hB3)).more hB3.size)
      have HV3 := hide ((HV2.out.same (Same.of_below hB3)).more hB3.size)
      have HB3 := hide (Below.trans HB2.out (hB3.mono HB2.out.size))
      have htl := Nat.lt_of_lt_of_le htl hB3.size
      have HS2 := hide hS2
      clear hB3 hS2 HR1 HB2 HU2 HV2
      have HR2 := hide (reversed_run (.slice A' lb c') b w3 HV3.out (by have := HDL.out.2.2.2.1; omega))
      go_wp2_with fail
      refine (unhide HR2).mono ?_; rintro e w4 ⟨u3, rfl, hB4, hS3⟩
      have HS1 := hide (Sl.more (Sl.same HS1.out (Same.of_below hB4)) hB4.size)
      have HS2 := hide (Strs.more (Strs.same HS2.out (Same.of_below hB4)) hB4.size)
      have c0 := (hB4.cell (p := ⟨t, 0, none⟩) htl).trans c0
      have c1 := (hB4.cell (p := ⟨t, 1, none⟩) htl).trans c1
      have HU4 := hide ((HU3.out.same (Same.of_below hB4)).more hB4.size)
      have HV4 := hide ((HV3.out.same (Same.of_below hB4)).more hB4.size)
      have HB4 := hide (Below.trans HB3.out (hB4.mono HB3.out.size))
      have htl := Nat.lt_of_lt_of_le htl hB4.size
      have HL2 := hide (lengths_run _ _ _ _ w4 HS2.out hS3 HDL.out.1 HDL.out.2.2.2.2)
      clear hB4 hS3 HR2 HB3 HU3 HV3
      go_wp2_with fail
      refine (unhide HL2).mono ?_; rintro e w5 ⟨u4, rfl, hB5, hS4⟩
      have HS1 := hide (Sl.more (Sl.same HS1.out (Same.of_below hB5)) hB5.size)
      have c0 := (hB5.cell (p := ⟨t, 0, none⟩) htl).trans c0
      have c1 := (hB5.cell (p := ⟨t, 1, none⟩) htl).trans c1
      have HU5 := hide ((HU4.out.same (Same.of_below hB5)).more hB5.size)
      have HV5 := hide ((HV4.out.same (Same.of_below hB5)).more hB5.size)
      have HB5 := hide (Below.trans HB4.out (hB5.mono HB4.out.size))
      have htl := Nat.lt_of_lt_of_le htl hB5.size
      have HS4 := hide hS4
      clear hB5 hS4 HL2 HB4 HU4 HV4 HS2
      obtain ⟨F1, hF1⟩ : ∃ F : Nat → Nat, F = lcs (a.take q) b q := ⟨_, rfl⟩
      obtain ⟨F2, hF2⟩ : ∃ F : Nat → Nat, F = lcs (a.drop q).reverse b.reverse (la - q) := ⟨_, rfl⟩
      have h1 := HS1.out
      have h4 := HS4.out
      rw [HTL.out.1, ← hF1, ← HLB.out] at h1
      rw [List.length_reverse, List.length_reverse, HTL.out.2, ← hF2, ← HLB.out] at h4
      obtain ⟨ad1, k1, rfl, hk1, hm1, hb1, hc1⟩ := Sl.row_parts h1
      obtain ⟨ad2, k2, rfl, hk2, hm2, hb2, hc2⟩ := Sl.row_parts h4
      have hm1 := maxLen_le hm1
      have hm2 := maxLen_le hm2
      have HC1 := hide hc1; have HC2 := hide hc2
      have HSUM : Hid (∀ k, sumF a b k = F1 k + F2 (lb - k)) := hide fun k => by rw [sumF, hF1, hF2, ← HLA.out, ← HLB.out, ← HH.out]
      have HLE : Hid (∀ k, F1 k ≤ 1000000 ∧ F2 k ≤ 1000000) := hide fun k => by
        rw [hF1, hF2]
        have := lcs_le (a.take q) b q k
        have := lcs_le (a.drop q).reverse b.reverse (la - q) k
        omega
      clear h1 h4 hc1 hc2 HS1 HS4 hF1 hF2
      go_wp2_with fail
      go_step3
      go_wp2_with fail
      go_loopw [11, 12, 51] (fun bv _ kv wr => ∃ k m : Nat, wr = w5.drewN m ∧ kv = .int .i64 k ∧ bv = .int .i64 (bestF (sumF a b) k : Int) ∧ k ≤ lb + 1) (fun _ _ kv _ => lb + 1 - (intOf kv).toNat)
      case atStart => exact ⟨0, 0, by rfl, rfl, rfl, by omega⟩
      case round =>
        obtain ⟨k, m, rfl, rfl, rfl, hk⟩ := hrel
        by_cases hlt : k < lb + 1
        · obtain ⟨B, hBst⟩ : ∃ B, B = bestF (sumF a b) k := ⟨_, rfl⟩
          have hBl : B ≤ lb := by rw [hBst]; have := bestF_lt (sumF a b) k; omega
          have d1 := HC1.out k (by omega)
          have d2 := HC2.out (lb - k) (by omega)
          have d3 := HC1.out B (by omega)
          have d4 := HC2.out (lb - B) (by omega)
          have l1 := HLE.out k; have l2 := HLE.out (lb - k); have l3 := HLE.out B; have l4 := HLE.out (lb - B)
          have hbs : bestF (sumF a b) (k + 1) = if F1 k + F2 (lb - k) ≤ F1 B + F2 (lb - B) then B else k := by rw [bestF, HSUM.out, ← hBst, HSUM.out]
          have HBS := Lib.hid hbs
          rw [← hBst]
          have HBST := Lib.hid hBst
          obtain ⟨P1, hP1⟩ : ∃ p, p = F1 k := ⟨_, rfl⟩
          obtain ⟨P2, hP2⟩ : ∃ p, p = F2 (lb - k) := ⟨_, rfl⟩
          obtain ⟨P3, hP3⟩ : ∃ p, p = F1 B := ⟨_, rfl⟩
          obtain ⟨P4, hP4⟩ : ∃ p, p = F2 (lb - B) := ⟨_, rfl⟩
          rw [← hP1] at d1 HBS l1; rw [← hP2] at d2 HBS l2; rw [← hP3] at d3 HBS l3; rw [← hP4] at d4 HBS l4
          obtain ⟨x1, hx1⟩ : ∃ x, x = lb - k := ⟨_, rfl⟩
          obtain ⟨x2, hx2⟩ : ∃ x, x = lb - B := ⟨_, rfl⟩
          rw [← hx1] at d2; rw [← hx2] at d4
          have w1 : IntKind.i64.wrap ((lb : Int) - k) = (x1 : Int) := by rw [IntWalk.i64_in _ (by omega)]; omega
          have w2' : IntKind.i64.wrap ((lb : Int) - B) = (x2 : Int) := by rw [IntWalk.i64_in _ (by omega)]; omega
          have y1 : x1 ≤ lb := by omega
          have y2 : x2 ≤ lb := by omega
          clear hbs hBst hP1 hP2 hP3 hP4 hx1 hx2
          by_cases hg : P1 + P2 ≤ P3 + P4
          · have g1 : decide (((P1 : Int) + P2) ≤ ((P3 : Int) + P4)) = true := by simp; omega
            go_wp2_with fail
            go_quiet (fail)
            go_wp2_with fail
            go_roundw
            case rel => exact ⟨k + 1, _, rfl, by go_num, by rw [HBS.out, if_pos hg], by omega⟩
            case measure => simp [intOf]; omega
          · have g1 : decide (((P1 : Int) + P2) ≤ ((P3 : Int) + P4)) = false := by simp; omega
            go_wp2_with fail
            go_quiet (fail)
            go_wp2_with fail
            go_roundw
            case rel => exact ⟨k + 1, _, rfl, by go_num, by rw [HBS.out, if_neg hg], by omega⟩
            case measure => simp [intOf]; omega
        · obtain rfl : k = lb + 1 := by omega
          obtain ⟨B, hBst⟩ : ∃ B, B = bestF (sumF a b) (lb + 1) := ⟨_, rfl⟩
          have hBl : B ≤ lb := by rw [hBst]; have := bestF_lt (sumF a b) (lb + 1); omega
          have hBl' : (B : Int) ≤ lb := by omega
          have hqc : q ≤ c := by omega
          have hBc : B ≤ c' := by omega
          rw [← hBst]
          have HBST := Lib.hid hBst
          obtain ⟨w6, hw6⟩ : ∃ w6, w6 = w5.drewN m := ⟨_, rfl⟩
          rw [← hw6]
          have c0 : w6.cell? ⟨t, 0, none⟩ = some (.int .i64 i) := by rw [hw6]; exact c0
          have c1 : w6.cell? ⟨t, 1, none⟩ = some (.int .i64 j) := by rw [hw6]; exact c1
          have htl : t < w6.heap.size := by rw [hw6]; exact htl
          have HB6 := hide (show Below w.heap.size w w6 by rw [hw6]; exact below_drewN HB5.out _)
          have e3 : IntKind.i64.wrap ((i : Int) + q) = (i : Int) + q := IntWalk.i64_in _ (by omega)
          have e4 : IntKind.i64.wrap ((j : Int) + B) = (j : Int) + B := IntWalk.i64_in _ (by omega)
          have HU6 := hide (show Strs w6.drew w6.drew.heap.size (.slice (some ad) la c) a by rw [hw6]; exact HU5.out)
          have HV6 := hide (show Strs w6.drew w6.drew.heap.size (.slice A' lb c') b by rw [hw6]; exact HV5.out)
          have HCALL1 : Hid (Calls Try.prog 30 #[.slice (some ad) q c, .slice A' B c', .agg #[.int .i64 i, .int .i64 j]] w6.drew (PairsPost w6.drew (commonF n (a.take q) (b.take B) i j))) :=
            hide (IH.out (a.take q) (b.take B) _ _ i j w6.drew (HU6.out.take hhn) (HV6.out.take hBl) (by rw [HTL.out.1]; omega) (by rw [HTL.out.1]; omega) (by rw [List.length_take]; have := HLB.out; omega) (by rw [HTL.out.1]; omega) (by rw [List.length_take]; have := HLB.out; omega))
          have HCALL2 : Hid (∀ w7 X2, Below w6.drew.heap.size w6.drew w7 → (B < lb → ∀ ad, A' = some ad → X2 = some (ad.add B)) → Calls Try.prog 30 #[.slice (some (ad.add q)) (la - q) (c - q), .slice X2 (lb - B) (c' - B), .agg #[.int .i64 ((i : Int) + q), .int .i64 ((j : Int) + B)]] w7 (PairsPost w7 (commonF n (a.drop q) (b.drop B) (i + q) (j + B)))) :=
            hide fun w7 X2 hb7 hX => by
              have := IH.out (a.drop q) (b.drop B) (.slice (some (ad.add q)) (la - q) (c - q)) (.slice X2 (lb - B) (c' - B)) (i + q) (j + B) w7
                (((HU6.out.same (Same.of_below hb7)).more hb7.size).drop hhn (fun _ ad' e => by injection e with e; subst e; rfl))
                (((HV6.out.same (Same.of_below hb7)).more hb7.size).drop hBl hX) (by rw [HTL.out.2]; omega) (by rw [HTL.out.2]; omega) (by rw [List.length_drop]; have := HLB.out; omega) (by rw [HTL.out.2]; omega) (by rw [List.length_drop]; have := HLB.out; omega)
              rw [Int.natCast_add, Int.natCast_add] at this
              exact this
          obtain ⟨i0, hi0, hz0, hz1, hz2⟩ := info_parts info49
          have HLN : Hid ((commonF n (a.take q) (b.take B) i j).length + (commonF n (a.drop q) (b.drop B) (i + q) (j + B)).length ≤ maxLen ∧ ((commonF n (a.take q) (b.take B) i j).length + (commonF n (a.drop q) (b.drop B) (i + q) (j + B)).length) * 16 ≤ 140737488355328) := hide (by
            have h1 := commonF_len n (a.take q) (b.take B) i j
            have h2 := commonF_len n (a.drop q) (b.drop B) (i + q) (j + B)
            rw [HTL.out.1] at h1
            rw [HTL.out.2] at h2
            unfold maxLen
            omega)
          clear hBst hw6
          have HRES : Hid (commonF (n + 1) a b i j = commonF n (a.take q) (b.take B) i j ++ commonF n (a.drop q) (b.drop B) (i + q) (j + B)) := hide (by
            conv => lhs; unfold commonF
            rw [if_neg (by rw [← HLA.out]; omega), if_neg (by rw [← HLA.out]; omega), ← HLA.out, ← HH.out, ← HLB.out, ← HBST.out])
          by_cases hcb : c' = B
          · subst hcb
            have hnl : ¬ c' < lb := by omega
            have HCALL2 : Hid (∀ w7 X2, Below w6.drew.heap.size w6.drew w7 → Calls Try.prog 30 #[.slice (some (ad.add q)) (la - q) (c - q), .slice X2 0 0, .agg #[.int .i64 ((i : Int) + q), .int .i64 ((j : Int) + c')]] w7 (PairsPost w7 (commonF n (a.drop q) (b.drop c') (i + q) (j + c')))) := hide fun w7 X2 h => by
              have := HCALL2.out w7 X2 h (fun h => absurd h hnl)
              rw [Nat.sub_self, show lb - c' = 0 by omega] at this
              exact this
            go_wp2_with fail
            go_region_held_law (fun w' => w'.cell? ⟨t, 0, none⟩ = some (.int .i64 i) ∧ w'.cell? ⟨t, 1, none⟩ = some (.int .i64 j)) (first | exact ⟨c0, c1⟩ | exact ⟨(hB9 0).trans ((hB8.cell (p := ⟨t, 0, none⟩) (Nat.lt_of_lt_of_le htl hB7.size)).trans ((hB7.cell (p := ⟨t, 0, none⟩) htl).trans c0)), (hB9 1).trans ((hB8.cell (p := ⟨t, 1, none⟩) (Nat.lt_of_lt_of_le htl hB7.size)).trans ((hB7.cell (p := ⟨t, 1, none⟩) htl).trans c1))⟩ | exact ⟨(hB8.cell (p := ⟨t, 0, none⟩) (Nat.lt_of_lt_of_le htl hB7.size)).trans ((hB7.cell (p := ⟨t, 0, none⟩) htl).trans c0), (hB8.cell (p := ⟨t, 1, none⟩) (Nat.lt_of_lt_of_le htl hB7.size)).trans ((hB7.cell (p := ⟨t, 1, none⟩) htl).trans c1)⟩ | exact ⟨(hB7.cell (p := ⟨t, 0, none⟩) htl).trans c0, (hB7.cell (p := ⟨t, 1, none⟩) htl).trans c1⟩)
              (first
                | (go_at_call 30; refine (HCALL2.out w7 _ hB7).mono ?_; rintro e w8 ⟨r2, rfl, hB8, hO8⟩)
                | (go_at_call 30; refine (unhide HCALL1).mono ?_; rintro e w7 ⟨r1, rfl, hB7, hO7⟩)
                | (have hxx := hB8; refine step_append_rows w8 rfl (.tmp 88) (.tmp 104) 46 rfl w6.drew.heap.size 49 i0 _ 2 16 Try.underlying46 hi0 hz0 hz1 hz2 rfl (by omega) r1 _ _ rfl (hO7.kept (grown_of_below hB8 (Nat.le_refl _)) (by cases hr : r1.ownBlock <;> simp)) r2 _ _ _ rfl hO8 (pairCells_one _) (HLN.out.1) HLN.out.2 (Nat.le_trans hB7.size hB8.size) ?_; intro v9 w9 h91 h92; have hB9 : ∀ k, w9.cell? ⟨t, k, none⟩ = w8.cell? ⟨t, k, none⟩ := fun k => h92.out.cell_far ⟨t, k, none⟩ (Nat.lt_of_lt_of_le htl (Nat.le_trans hB7.size hB8.size)) (fun e => absurd (Nat.lt_of_lt_of_le htl (hO7.lt _ e.symm).1) (Nat.lt_irrefl _))))
            simp only [List.getElem_toArray, List.getElem_cons_succ, List.getElem_cons_zero, List.setIfInBounds_toArray, List.set_cons_succ, List.set_cons_zero]
            have HB9 := hide (Below.grown (Below.trans HB6.out (Below.drew (Below.refl _ _) |>.mono HB6.out.size |>.trans ((hB7.mono HB6.out.size).trans (hB8.mono (Nat.le_trans HB6.out.size hB7.size))))) h92.out (Nat.le_trans HB6.out.size (Nat.le_trans hB7.size hB8.size)) (fun k e => Nat.le_trans HB6.out.size (hO7.lt k e).1))
            have HO9 := hide (own_mono h91.out HB6.out.size)
            clear hB7 hB8 hO7 hO8 h91 h92 hB9 HCALL1 HCALL2
            go_wp2_with fail
            try rw [Exit.noGoto_ret]
            go_ret
            refine ⟨_, rfl, HB9.out, ?_⟩
            rw [HRES.out, List.length_append, pairCells_append]
            exact HO9.out
          · go_wp2_with fail
            go_region_held_law (fun w' => w'.cell? ⟨t, 0, none⟩ = some (.int .i64 i) ∧ w'.cell? ⟨t, 1, none⟩ = some (.int .i64 j)) (first | exact ⟨c0, c1⟩ | exact ⟨(hB9 0).trans ((hB8.cell (p := ⟨t, 0, none⟩) (Nat.lt_of_lt_of_le htl hB7.size)).trans ((hB7.cell (p := ⟨t, 0, none⟩) htl).trans c0)), (hB9 1).trans ((hB8.cell (p := ⟨t, 1, none⟩) (Nat.lt_of_lt_of_le htl hB7.size)).trans ((hB7.cell (p := ⟨t, 1, none⟩) htl).trans c1))⟩ | exact ⟨(hB8.cell (p := ⟨t, 0, none⟩) (Nat.lt_of_lt_of_le htl hB7.size)).trans ((hB7.cell (p := ⟨t, 0, none⟩) htl).trans c0), (hB8.cell (p := ⟨t, 1, none⟩) (Nat.lt_of_lt_of_le htl hB7.size)).trans ((hB7.cell (p := ⟨t, 1, none⟩) htl).trans c1)⟩ | exact ⟨(hB7.cell (p := ⟨t, 0, none⟩) htl).trans c0, (hB7.cell (p := ⟨t, 1, none⟩) htl).trans c1⟩)
              (first
                | (go_at_call 30; refine (HCALL2.out w7 _ hB7 (fun _ ad' e => by rw [e]; rfl)).mono ?_; rintro e w8 ⟨r2, rfl, hB8, hO8⟩)
                | (go_at_call 30; refine (unhide HCALL1).mono ?_; rintro e w7 ⟨r1, rfl, hB7, hO7⟩)
                | (have hxx := hB8; refine step_append_rows w8 rfl (.tmp 88) (.tmp 104) 46 rfl w6.drew.heap.size 49 i0 _ 2 16 Try.underlying46 hi0 hz0 hz1 hz2 rfl (by omega) r1 _ _ rfl (hO7.kept (grown_of_below hB8 (Nat.le_refl _)) (by cases hr : r1.ownBlock <;> simp)) r2 _ _ _ rfl hO8 (pairCells_one _) (HLN.out.1) HLN.out.2 (Nat.le_trans hB7.size hB8.size) ?_; intro v9 w9 h91 h92; have hB9 : ∀ k, w9.cell? ⟨t, k, none⟩ = w8.cell? ⟨t, k, none⟩ := fun k => h92.out.cell_far ⟨t, k, none⟩ (Nat.lt_of_lt_of_le htl (Nat.le_trans hB7.size hB8.size)) (fun e => absurd (Nat.lt_of_lt_of_le htl (hO7.lt _ e.symm).1) (Nat.lt_irrefl _))))
            simp only [List.getElem_toArray, List.getElem_cons_succ, List.getElem_cons_zero, List.setIfInBounds_toArray, List.set_cons_succ, List.set_cons_zero]
            have HB9 := hide (Below.grown (Below.trans HB6.out (Below.drew (Below.refl _ _) |>.mono HB6.out.size |>.trans ((hB7.mono HB6.out.size).trans (hB8.mono (Nat.le_trans HB6.out.size hB7.size))))) h92.out (Nat.le_trans HB6.out.size (Nat.le_trans hB7.size hB8.size)) (fun k e => Nat.le_trans HB6.out.size (hO7.lt k e).1))
            have HO9 := hide (own_mono h91.out HB6.out.size)
            clear hB7 hB8 hO7 hO8 h91 h92 hB9 HCALL1 HCALL2
            go_wp2_with fail
            try rw [Exit.noGoto_ret]
            go_ret
            refine ⟨_, rfl, HB9.out, ?_⟩
            rw [HRES.out, List.length_append, pairCells_append]
            exact HO9.out
end Go.Proofs.Ytbfgnafpianliaa
