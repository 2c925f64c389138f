/- find and Get of the reference; A valid part, cleaned, is the same part: plain; The law of Get. -/
import Derived.Test.YtajpgmacabeeeaaDoorGI
import Derived.Test.YtajpgmacabeeeaaDoorGB
import Derived.Test.YtajpgmacabeeeaaDoorGC
import Derived.Test.YtajpgmacabeeeaaDoorGD
import Derived.Test.YtajpgmacabeeeaaDoorGL

/- find and Get of the reference. -/
namespace Go.Proofs.YtajpgmacabeeeaaDoor
open Go.RowKit

set_option maxRecDepth 20000 in
set_option maxHeartbeats 1000000 in
theorem find_run (m : Nat) (A : Option Addr) (y c : Nat) (MS : List (ByteArray × Dt)) (lab : ByteArray) (w : World) (B : Nat) (hBw : B ≤ w.heap.size) (hM : MemsAt (Parts w B m) w B A MS) (hy : y = MS.length) (hc : y ≤ c) (hc2 : c ≤ maxLen) :
    Calls Tryd.prog 49 #[.slice A y c, .string lab] w (FoundPost B w (m + 1) (findM lab MS)) := by
  have hm := maxLen_le hc2
  obtain ⟨res, hres⟩ : ∃ k, k = findM lab MS := ⟨_, rfl⟩
  rw [← hres]
  have HQ := Lib.hid (show res = findM lab (MS.drop 0) from hres)
  have HM := Lib.hid hM; have HY := Lib.hid hy; have HBW := hide hBw
  clear hres hM hy hc2 hBw
  go_enter Tryd.func49, Tryd.ntmps49
  go_upto_region 1 with fail
  obtain ⟨w1, g, e1, e2, hB1, _, _, _, _, _, hR1⟩ := boxD w 0 0 ⟨#[]⟩ (.slice none 0 0) (.slice none 0 0)
  rw [e1, e2]
  have HB1 := hide hB1; have HR1 := hide hR1
  have HG := hide (show w.heap.size ≤ g by omega)
  clear e1 e2 hB1 hR1
  obtain ⟨r0, r1, r2, r3, r4⟩ := row5 HR1.out
  have f0 := HR1.out.frozen 0
  have f1 := HR1.out.frozen 1
  have f2 := HR1.out.frozen 2
  have f3 := HR1.out.frozen 3
  have f4 := HR1.out.frozen 4
  go_wp2_with fail
  go_loopw [6] (fun iv wr => ∃ i : Nat, iv = .int .i64 i ∧ i ≤ y ∧ w1 = wr ∧ Hid (res = findM lab (MS.drop i))) (fun iv _ => y - (intOf iv).toNat)
  case atStart => exact ⟨0, rfl, Nat.zero_le _, rfl, HQ⟩
  case round =>
    clear HQ
    obtain ⟨i, rfl, hi, rfl, hI⟩ := hrel
    by_cases hlt : i < y
    · have hlt' : i < MS.length := by rw [← HY.out]; exact hlt
      obtain ⟨ad, rfl, hb, hlab, a, q, a', q', hfive, hpts⟩ := HM.out i _ (List.getElem?_eq_getElem hlt')
      have hq := hI.out
      rw [drop_at hlt', findM] at hq
      obtain ⟨X, hX⟩ : ∃ X, X = MS[i] := ⟨_, rfl⟩
      rw [← hX] at hfive hpts hlab hq
      have hbb : (ad.add (i * 6)).block < w.heap.size := by rw [block_of_add]; exact Nat.lt_of_lt_of_le hb HBW.out
      obtain ⟨s0, s1, s2, s3, s4, s5⟩ := six_of ((HB1.out.cell (p := ad.add (i * 6)) hbb).trans hlab) (hfive.same (p := ⟨_, _, none⟩) hbb (Same.of_below HB1.out))
      have HQ := Lib.hid hq
      have HPT := hide hpts
      clear hfive hX hlt' hb hbb hI hq hpts hlab
      cases hl : (X.1.toList == lab.toList) with
      | true =>
        have HZ := hide (show res = some X.2 by rw [HQ.out, hl]; rfl)
        go_wp2_with fail
        refine bodyPost_ret (results_dat2 rfl _ _ g _ _ _ _ _ rfl (row_set5 HR1.out _ _ _ _ _)) rfl ?_
        exact ⟨X.2, a, q, a', q', by rw [HZ.out]; rfl, by rw [HZ.out]; rfl, (HPT.out.turn ((Same.of_below (below_set5 HB1.out HG.out _ _ _ _ _)).mono HBW.out) (Nat.le_refl _)).up, below_set5 HB1.out HG.out _ _ _ _ _⟩
      | false =>
        have HQ2 := hide (show res = findM lab (MS.drop (i + 1)) by rw [HQ.out, hl]; rfl)
        go_wp2_with fail
        go_roundw
        case rel => exact ⟨i + 1, by go_num, by omega, by first | trivial | rfl, HQ2⟩
        case measure => simp [intOf]; omega
    · have HZ := hide (show res = none by rw [hI.out, List.drop_eq_nil_of_le (by rw [← HY.out]; omega)]; rfl)
      clear hI
      go_wp2_with fail
      refine bodyPost_ret (results_dat2 rfl _ _ g _ _ _ _ _ rfl (row_set5 HR1.out _ _ _ _ _)) rfl ?_
      exact ⟨zeroD, none, 0, none, 0, by rw [HZ.out]; rfl, by rw [HZ.out]; rfl, zero_parts _ _ _, below_set5 HB1.out HG.out _ _ _ _ _⟩

set_option maxRecDepth 20000 in
set_option maxHeartbeats 2000000 in
theorem refGet_run (m : Nat) (d : Dt) (A : Option Addr) (c : Nat) (A' : Option Addr) (c' : Nat) (v : Value) (l : List Sp) (w : World) (hp : Parts w w.heap.size (m + 1) d A c A' c') (hv : StepsR w w.heap.size v l) :
    Calls Tryd.prog 29 #[datV d A c A' c', v] w (GetPost w (m + 1) (if checkD d = 0 then goD d l else none)) := by
  have HCK := hide fun w' (hB : Below w.heap.size w w') => refValidD_run (m + 1) d A c A' c' w' (hp.turn (Same.of_below hB) hB.size)
  obtain ⟨S, cs, rfl, g1, g2, hS⟩ := hv
  have hm := maxLen_le g2
  obtain ⟨N, hN⟩ : ∃ n, n = l.length := ⟨_, rfl⟩
  rw [← hN] at g1 ⊢
  obtain ⟨res, hres⟩ : ∃ k, k = (if checkD d = 0 then goD d l else none) := ⟨_, rfl⟩
  rw [← hres]
  obtain ⟨z, hz⟩ : ∃ z, z = checkD d := ⟨_, rfl⟩
  rw [← hz] at HCK hres
  have HX0 := hide (show ∃ X a q a' q', datCs X a q a' q' = datCs d A c A' c' ∧ Parts w w.heap.size (m + 1) X a q a' q' ∧ goD d l = goD X (l.drop 0) from ⟨d, A, c, A', c', rfl, hp, rfl⟩)
  unfold datV datCs at HCK
  unfold datCs at HX0
  unfold datV datCs
  obtain ⟨k, hk⟩ : ∃ k, k = kD d := ⟨_, rfl⟩
  obtain ⟨n, hn⟩ : ∃ k, k = nD d := ⟨_, rfl⟩
  obtain ⟨s, hs⟩ : ∃ k, k = sD d := ⟨_, rfl⟩
  obtain ⟨x, hx⟩ : ∃ k, k = (iD d).length := ⟨_, rfl⟩
  obtain ⟨y, hy⟩ : ∃ k, k = (mD d).length := ⟨_, rfl⟩
  rw [← hk, ← hn, ← hs, ← hx, ← hy] at HCK HX0 ⊢
  have HRES := Lib.hid hres; have HN := Lib.hid hN; have HSS := hide hS
  clear hp hk hn hs hx hy hz hres hN hS g2
  go_enter Tryd.func29, Tryd.ntmps29
  go_upto_region 1 with fail
  obtain ⟨w1, g, e1, e2, hB1, _, _, _, _, _, hR1⟩ := boxD w k n s (.slice A x c) (.slice A' y c')
  obtain ⟨w2, g4, e3, e4, hB2, _, _, _, _, _, hR2⟩ := boxD w1 0 0 ⟨#[]⟩ (.slice none 0 0) (.slice none 0 0)
  have e5 : g + 1 = g4 := by rw [← e4, ← e1, ← e2]; simp
  rw [e1, e2, e3, e5]
  have HB2 := hide (hB1.trans (hB2.mono hB1.size))
  have HG := hide (show w.heap.size = g ∧ g4 = g + 1 ∧ g4 < w2.heap.size from ⟨e2, by omega, hR2.lt⟩)
  have HR1 := hide (hR1.below hB2)
  have HR2 := hide hR2
  obtain ⟨s0, s1, s2, s3, s4⟩ := row5 HR1.out
  clear e1 e2 e3 e4 e5 hB1 hB2 hR1 hR2
  go_wp2_with fail
  refine (HCK.out _ HB2.out).mono ?_; rintro e w3 ⟨rfl, hB3⟩
  have HB3 := hide (HB2.out.trans (hB3.mono HB2.out.size))
  have HS3 := hide hB3.size
  have HR13 := hide (HR1.out.below hB3)
  have HR23 := hide (HR2.out.below hB3)
  clear hB3 HR1 HR2 HB2 HCK s0 s1 s2 s3 s4
  by_cases hz : z = 0
  · subst hz
    have HRES2 := hide (show res = goD d l by rw [HRES.out, if_pos rfl])
    obtain ⟨s0, s1, s2, s3, s4⟩ := row5 HR13.out
    clear HRES
    go_upto_region 4 with fail
    obtain ⟨w4, g6, e1, e2, hB4, _, _, _, _, _, hR4⟩ := boxD w3 k n s (.slice A x c) (.slice A' y c')
    rw [e1, e2]
    have HB4 := hide (HB3.out.trans (hB4.mono HB3.out.size))
    have HG6 := hide (show g4 < g6 ∧ w.heap.size ≤ g6 by have := HG.out; have := HS3.out; omega)
    have HX1 := hide (show ∃ X a q a' q', Row w4 g6 25 (datCs X a q a' q') ∧ Parts w4 w.heap.size (m + 1) X a q a' q' ∧ goD d l = goD X (l.drop 0) by
      obtain ⟨X, a, q, a', q', h1, h2, h4⟩ := HX0.out
      exact ⟨X, a, q, a', q', by unfold datCs; rw [h1]; exact hR4, h2.turn (Same.of_below HB4.out) (Nat.le_refl _), h4⟩)
    have HR4 := hide (HR23.out.below hB4)
    clear HX0 HR13 HR23 e1 e2 hB4 hR4 s0 s1 s2 s3 s4
    go_wp2_with fail
    go_loopw [7, 8, 9, 10] (fun iv _ _ _ wr => ∃ i : Nat, iv = .int .i64 i ∧ i ≤ N ∧ Hid (Below w.heap.size w wr) ∧ Hid (Row wr g4 25 [.int .i64 0, .int .i64 0, .string ⟨#[]⟩, .slice none 0 0, .slice none 0 0]) ∧
      Hid (∃ X a q a' q', Row wr g6 25 (datCs X a q a' q') ∧ Parts wr w.heap.size (m + 1) X a q a' q' ∧ goD d l = goD X (l.drop i))) (fun iv _ _ _ _ => N - (intOf iv).toNat)
    case atStart => exact ⟨0, rfl, Nat.zero_le _, HB4, HR4, HX1⟩
    case round =>
      clear HX1 HR4 HB4
      obtain ⟨i, rfl, hi, hB, hR4, hX⟩ := hrel
      obtain ⟨X, a, q, a', q', hR2, hP, hgo⟩ := hX.out
      by_cases hlt : i < N
      · have hlt' : i < l.length := by rw [← HN.out]; exact hlt
        obtain ⟨ad, rfl, hb, hc0, hc1⟩ := HSS.out i _ (List.getElem?_eq_getElem hlt')
        obtain ⟨T, hT⟩ : ∃ T, T = l[i] := ⟨_, rfl⟩
        rw [drop_at hlt', ← hT, goD] at hgo
        rw [← hT] at hc0 hc1
        have hbb : (ad.add (i * 2)).block < w.heap.size := by rw [block_of_add]; exact hb
        have c0 := (hB.out.cell (p := ad.add (i * 2)) hbb).trans hc0
        have c1 := (hB.out.cell (p := ⟨_, _, none⟩) hbb).trans hc1
        obtain ⟨T1, hT1⟩ : ∃ u, u = T.1 := ⟨_, rfl⟩
        obtain ⟨T2, hT2⟩ : ∃ u, u = T.2 := ⟨_, rfl⟩
        rw [← hT1, ← hT2] at hgo
        rw [← hT1] at c0
        rw [← hT2] at c1
        have HGO := Lib.hid hgo
        have HP := hide hP
        clear hlt' hb hc0 hc1 hT hT1 hT2 hbb hP hgo hX
        go_upto_region 8 with fail
        obtain ⟨wa, hwa⟩ : ∃ wa, wa = wr.alloc (Obj.cells #[Value.string T1, Value.int IntKind.i64 T2] 48) := ⟨_, rfl⟩
        obtain ⟨b, hbn⟩ : ∃ b, b = wr.heap.size := ⟨_, rfl⟩
        have hRa : Row wa b 48 [Value.string T1, Value.int IntKind.i64 T2] := by rw [hwa, hbn]; exact Row.new wr _ _
        have hBa : Below wr.heap.size wr wa := by rw [hwa]; exact (Below.refl _ _).alloc (Nat.le_refl _) _
        rw [← hwa, ← hbn]
        have d0 := hRa.cell 0
        have d1 := hRa.cell 1
        have HRA := hide (hR2.below hBa)
        have HR4A := hide (hR4.out.below hBa)
        have HBA := hide (hB.out.trans (hBa.mono hB.out.size))
        have HPA := hide (HP.out.turn ((Same.of_below hBa).mono hB.out.size) (Nat.le_refl _))
        obtain ⟨s0, s1, s2, s3, s4⟩ := row5 HRA.out
        clear c0 c1 hwa hbn hRa hBa hR2 hR4 hB HP
        by_cases hlab : T1.toList = []
        · have g0 : (T1.toList == []) = true := by simpa using hlab
          have hst : stepD X T1 T2 = if 0 ≤ T2 ∧ T2 < (iD X).length then (iD X)[T2.toNat]? else none := if_pos hlab
          by_cases hix : 0 ≤ T2 ∧ T2 < (iD X).length
          · obtain ⟨j, rfl⟩ : ∃ j : Nat, T2 = j := ⟨T2.toNat, by omega⟩
            have hjx : j < (iD X).length := by omega
            obtain ⟨ad2, rfl, hb2, ya, yq, ya', yq', hfive, hpts⟩ := HPA.out.2.1 j _ (List.getElem?_eq_getElem hjx)
            obtain ⟨Y, hY⟩ : ∃ Y, Y = (iD X)[j] := ⟨_, rfl⟩
            rw [← hY] at hfive hpts
            have hgo2 : goD d l = goD Y (l.drop (i + 1)) := by rw [HGO.out, hst, if_pos hix, Int.toNat_natCast, List.getElem?_eq_getElem hjx, ← hY]
            obtain ⟨u0, u1, u2, u3, u4⟩ := hfive
            have HX9 := hide (show ∀ x0 x1 x2 x3 x4, goD d l = goD Y (l.drop (i + 1)) ∧ Parts (set5 wa g6 x0 x1 x2 x3 x4) w.heap.size (m + 1) Y ya yq ya' yq' from fun x0 x1 x2 x3 x4 =>
              ⟨hgo2, (hpts.turn (Same.of_below (below_set5 (Below.refl _ _) HG6.out.2 _ _ _ _ _)) (Nat.le_refl _)).up⟩)
            have HRS := hide fun x0 x1 x2 x3 x4 => row_set5 HRA.out x0 x1 x2 x3 x4
            have HR4S := hide fun x0 x1 x2 x3 x4 => row_far5 HR4A.out (g' := g6) (by have := HG6.out; omega) x0 x1 x2 x3 x4
            have HBS := hide fun x0 x1 x2 x3 x4 => below_set5 HBA.out (g := g6) HG6.out.2 x0 x1 x2 x3 x4
            have f0 := HRA.out.frozen 0
            have f1 := HRA.out.frozen 1
            have f2 := HRA.out.frozen 2
            have f3 := HRA.out.frozen 3
            have f4 := HRA.out.frozen 4
            obtain ⟨LX, hLX⟩ : ∃ n, n = (iD X).length := ⟨_, rfl⟩
            rw [← hLX] at s3 hjx
            have q1 : decide ((j : Int) < 0) = false := by simp
            have q2 : decide ((j : Int) ≥ (LX : Int)) = false := by simp; omega
            have hqm := maxLen_le HPA.out.lens.2.1
            have hqq := HPA.out.lens.1
            rw [← hLX] at hqq
            clear hpts hY hgo2 hst hix hb2 hLX HRA HR4A HBA HPA HGO hlab
            go_wp2_with fail
            go_roundw
            case rel => exact ⟨i + 1, by go_num, by omega, hide (HBS.out _ _ _ _ _), hide (HR4S.out _ _ _ _ _), hide ⟨Y, ya, yq, ya', yq', HRS.out _ _ _ _ _, (HX9.out _ _ _ _ _).2, (HX9.out undef undef undef undef undef).1⟩⟩
            case measure => simp [intOf]; omega
          · have HZ := hide (show res = none by rw [HRES2.out, HGO.out, hst, if_neg hix])
            obtain ⟨LX, hLX⟩ : ∃ n, n = (iD X).length := ⟨_, rfl⟩
            rw [← hLX] at s3 hix
            obtain ⟨r0, r1, r2, r3, r4⟩ := row5 HR4A.out
            have f0 := HR4A.out.frozen 0
            have f1 := HR4A.out.frozen 1
            have f2 := HR4A.out.frozen 2
            have f3 := HR4A.out.frozen 3
            have f4 := HR4A.out.frozen 4
            by_cases h0 : T2 < 0
            · have q1 : decide (T2 < 0) = true := by simpa using h0
              clear hix hLX hst hlab
              go_wp2_with fail
              refine bodyPost_ret (results_dat2 rfl _ _ g4 _ _ _ _ _ rfl (row_set5 HR4A.out _ _ _ _ _)) rfl ?_
              exact ⟨zeroD, none, 0, none, 0, by rw [HZ.out]; rfl, by rw [HZ.out]; rfl, zero_parts _ _ _, below_set5 HBA.out (by have := HG.out; omega) _ _ _ _ _⟩
            · have q1 : decide (T2 < 0) = false := by simpa using h0
              have q2 : decide (T2 ≥ (LX : Int)) = true := by simp; omega
              clear hix hLX hst hlab
              go_wp2_with fail
              refine bodyPost_ret (results_dat2 rfl _ _ g4 _ _ _ _ _ rfl (row_set5 HR4A.out _ _ _ _ _)) rfl ?_
              exact ⟨zeroD, none, 0, none, 0, by rw [HZ.out]; rfl, by rw [HZ.out]; rfl, zero_parts _ _ _, below_set5 HBA.out (by have := HG.out; omega) _ _ _ _ _⟩
        · have g0 : (T1.toList == []) = false := by simpa using hlab
          have hst : stepD X T1 T2 = findM T1 (mD X) := if_neg hlab
          have HST := hide (find_run m a' (mD X).length q' (mD X) T1 wa w.heap.size HBA.out.size HPA.out.2.2 rfl HPA.out.lens.2.2.1 HPA.out.lens.2.2.2)
          unfold FoundPost datV datCs at HST
          obtain ⟨o, ho⟩ : ∃ o, o = findM T1 (mD X) := ⟨_, rfl⟩
          rw [← ho] at HST hst
          rw [hst] at HGO
          clear ho hst hlab HPA
          go_wp2_with fail
          refine HST.out.mono ?_; rintro e w5 ⟨Y, ya, yq, ya', yq', rfl, hY, hPY, hB5⟩
          have HY := Lib.hid hY; have HPY := hide hPY; have HB5 := hide hB5
          clear hY hPY hB5 HST s0 s1 s2 s3 s4
          go_upto_region 10 with fail
          obtain ⟨w6, b9, e1, e2, hB6, _, _, _, _, _, hR6⟩ := boxD w5 (kD Y) (nD Y) (sD Y) (.slice ya (iD Y).length yq) (.slice ya' (mD Y).length yq')
          rw [e1, e2]
          have HB56 := hide (HB5.out.trans (hB6.mono HB5.out.size))
          have HB6 := hide (HBA.out.trans (HB56.out.mono HBA.out.size))
          have HR4B := hide (HR4A.out.below HB56.out)
          have HRB := hide (HRA.out.below HB56.out)
          have HPY6 := hide (HPY.out.turn ((Same.of_below hB6).mono (Nat.le_trans HBA.out.size HB5.out.size)) (Nat.le_refl _))
          obtain ⟨s0, s1, s2, s3, s4⟩ := row5 hR6
          clear e1 e2 hB6 hR6 HBA HR4A HRA HB5 HPY HB56 d0 d1
          cases o with
          | none =>
            have HZ := hide (show res = none by rw [HRES2.out, HGO.out])
            obtain ⟨r0, r1, r2, r3, r4⟩ := row5 HR4B.out
            have f0 := HR4B.out.frozen 0
            have f1 := HR4B.out.frozen 1
            have f2 := HR4B.out.frozen 2
            have f3 := HR4B.out.frozen 3
            have f4 := HR4B.out.frozen 4
            go_wp2_with fail
            refine bodyPost_ret (results_dat2 rfl _ _ g4 _ _ _ _ _ rfl (row_set5 HR4B.out _ _ _ _ _)) rfl ?_
            exact ⟨zeroD, none, 0, none, 0, by rw [HZ.out]; rfl, by rw [HZ.out]; rfl, zero_parts _ _ _, below_set5 HB6.out (by have := HG.out; omega) _ _ _ _ _⟩
          | some x =>
            have hYx : Y = x := HY.out
            subst hYx
            have HX9 := hide (show ∀ x0 x1 x2 x3 x4, goD d l = goD Y (l.drop (i + 1)) ∧ Parts (set5 w6 g6 x0 x1 x2 x3 x4) w.heap.size (m + 1) Y ya yq ya' yq' from fun x0 x1 x2 x3 x4 =>
              ⟨HGO.out, HPY6.out.turn (Same.of_below (below_set5 (Below.refl _ _) HG6.out.2 _ _ _ _ _)) (Nat.le_refl _)⟩)
            have HRS := hide fun x0 x1 x2 x3 x4 => row_set5 HRB.out x0 x1 x2 x3 x4
            have HR4S := hide fun x0 x1 x2 x3 x4 => row_far5 HR4B.out (g' := g6) (by have := HG6.out; omega) x0 x1 x2 x3 x4
            have HBS := hide fun x0 x1 x2 x3 x4 => below_set5 HB6.out (g := g6) HG6.out.2 x0 x1 x2 x3 x4
            obtain ⟨r0, r1, r2, r3, r4⟩ := row5 HRB.out
            have f0 := HRB.out.frozen 0
            have f1 := HRB.out.frozen 1
            have f2 := HRB.out.frozen 2
            have f3 := HRB.out.frozen 3
            have f4 := HRB.out.frozen 4
            clear HRB HR4B HB6 HPY6 HGO HY
            go_wp2_with fail
            go_roundw
            case rel => exact ⟨i + 1, by go_num, by omega, hide (HBS.out _ _ _ _ _), hide (HR4S.out _ _ _ _ _), hide ⟨Y, ya, yq, ya', yq', HRS.out _ _ _ _ _, (HX9.out _ _ _ _ _).2, (HX9.out undef undef undef undef undef).1⟩⟩
            case measure => simp [intOf]; omega
      · obtain rfl : i = N := by omega
        have HZ := hide (show res = some X by rw [HRES2.out, hgo, HN.out, List.drop_eq_nil_of_le (Nat.le_refl _)]; rfl)
        obtain ⟨s0, s1, s2, s3, s4⟩ := row5 hR2
        obtain ⟨r0, r1, r2, r3, r4⟩ := row5 hR4.out
        have f0 := hR4.out.frozen 0
        have f1 := hR4.out.frozen 1
        have f2 := hR4.out.frozen 2
        have f3 := hR4.out.frozen 3
        have f4 := hR4.out.frozen 4
        have HP := hide hP
        have HGW := hide (show w.heap.size ≤ g4 by have := HG.out; omega)
        clear hX hP hgo hR2
        go_wp2_with fail
        refine bodyPost_ret (results_dat2 rfl _ _ g4 _ _ _ _ _ rfl (row_set5 hR4.out _ _ _ _ _)) rfl ?_
        exact ⟨_, a, q, a', q', by rw [HZ.out]; rfl, by rw [HZ.out]; rfl, HP.out.turn (Same.of_below (below_set5 (Below.refl _ _) HGW.out _ _ _ _ _)) ((below_set5 hB.out HGW.out _ _ _ _ _).size), below_set5 hB.out HGW.out _ _ _ _ _⟩
  · have HRES2 := hide (show res = none by rw [HRES.out, if_neg hz])
    have g0 : (z == 0) = false := by simpa using hz
    obtain ⟨r0, r1, r2, r3, r4⟩ := row5 HR23.out
    have f0 := HR23.out.frozen 0
    have f1 := HR23.out.frozen 1
    have f2 := HR23.out.frozen 2
    have f3 := HR23.out.frozen 3
    have f4 := HR23.out.frozen 4
    go_wp2_with fail
    refine bodyPost_ret (results_dat2 rfl _ _ g4 _ _ _ _ _ rfl (row_set5 HR23.out _ _ _ _ _)) rfl ?_
    exact ⟨zeroD, none, 0, none, 0, by rw [HRES2.out]; rfl, by rw [HRES2.out]; rfl, zero_parts _ _ _, below_set5 HB3.out (by have := HG.out; omega) _ _ _ _ _⟩
end Go.Proofs.YtajpgmacabeeeaaDoor

/- A valid part, cleaned, is the same part: plain. -/
namespace Go.Proofs.YtajpgmacabeeeaaDoor
open Go.RowKit

theorem zipD_map {f : Dt → Dt → Bool} {g : Dt → Dt} : ∀ {l : List Dt}, (∀ x ∈ l, f (g x) x = true) → zipD f (l.map g) l = true
  | [], _ => rfl
  | x :: l, h => by
    show (f (g x) x && zipD f (l.map g) l) = true
    rw [h x (List.mem_cons_self ..), zipD_map fun y hy => h y (List.mem_cons_of_mem _ hy)]; rfl
theorem zipM_map {f : Dt → Dt → Bool} {g : Dt → Dt} : ∀ {l : List (ByteArray × Dt)}, (∀ x ∈ l, f (g x.2) x.2 = true) → zipM f (l.map fun x => (x.1, g x.2)) l = true
  | [], _ => rfl
  | x :: l, h => by
    show ((x.1.toList == x.1.toList) && f (g x.2) x.2 && zipM f (l.map fun x => (x.1, g x.2)) l) = true
    rw [h x (List.mem_cons_self ..), zipM_map fun y hy => h y (List.mem_cons_of_mem _ hy)]; simp
theorem asc_pair : ∀ {l : List (ByteArray × Dt)} {p : ByteArray}, ascL p l = true → (∀ x ∈ l, ltB p x.1 = true) ∧ l.Pairwise fun x y => ltB x.1 y.1 = true
  | [], _, _ => ⟨by simp, List.Pairwise.nil⟩
  | x :: l, p, h => by
    unfold ascL at h
    split at h
    · rename_i hp
      obtain ⟨h1, h2⟩ := asc_pair h
      refine ⟨fun y hy => ?_, List.pairwise_cons.2 ⟨fun y hy => h1 y hy, h2⟩⟩
      rcases List.mem_cons.1 hy with rfl | hy
      · exact hp
      · rcases Bool.eq_false_or_eq_true (ltB p y.1) with e | e
        · exact e
        · have : ltB p x.1 = false := bl_trans _ _ _ (bl_asymm _ _ (h1 y hy)) e
          rw [hp] at this; cases this
    · cases h
theorem asc_srt {l : List (ByteArray × Dt)} (h : ascB l = true) : SrtK Prod.fst l := by
  cases l with
  | nil => exact List.Pairwise.nil
  | cons x l =>
    have := asc_pair (l := l) (p := x.1) h
    exact (List.pairwise_cons.2 ⟨fun y hy => this.1 y hy, this.2⟩).imp fun h => bl_asymm _ _ h
theorem sorted_id {l : List (ByteArray × Dt)} (h : SrtK Prod.fst l) : sortK Prod.fst l = l := (eq_sortK h (StaK.refl l)).symm
theorem own_zero {d : Dt} (h : ownD d = 0) : plainB d = true ∧ ascB (mD d) = true := by
  unfold ownD at h
  split at h
  · exact absurd h (by decide)
  · rename_i h1
    split at h
    · exact absurd h (by decide)
    · split at h
      · exact absurd h (by decide)
      · rename_i h3; exact ⟨by simpa using h1, by simpa using h3⟩
theorem check_zero' {r : Nat} {d : Dt} (h : checkF r d = 0) : ∃ r', r = r' + 1 ∧ ownD d = 0 ∧ ∀ x ∈ kids d, checkF r' x = 0 := by
  cases r with
  | zero => exact absurd (show (9 : Int) = 0 from h) (by decide)
  | succ r =>
    refine ⟨r, rfl, ?_, (plain_of h).2⟩
    unfold checkF at h
    split at h
    · assumption
    · rename_i h2; exact absurd h h2
theorem plain_fields {d : Dt} (h : plainB d = true) : (kD d = 2 ∨ kD d = 3 ∨ nD d = 0) ∧ (kD d = 4 ∨ (sD d).toList = []) ∧ (kD d = 5 ∨ iD d = []) ∧ (kD d = 6 ∨ mD d = []) := by
  unfold plainB plainQ at h
  simp at h
  obtain ⟨⟨⟨⟨_, h1⟩, h2⟩, h3⟩, h4⟩ := h
  exact ⟨by omega, h2, h3, h4⟩
theorem clean_same {w : World} {B : Nat} : ∀ (m r : Nat) (lv : Int) {d : Dt} {A c A' c'}, Parts w B m d A c A' c' → checkF r d = 0 → lv = 17 - r → sameF m (cleanF m lv d) d = true
  | 0, _, _, _, _, _, _, _, hp, _, _ => hp.elim
  | m + 1, r, lv, d, _, _, _, _, hp, hc, hl => by
    obtain ⟨r', rfl, ho, hk⟩ := check_zero' hc
    obtain ⟨hpl, hasc⟩ := own_zero ho
    obtain ⟨p1, p2, p3, p4⟩ := plain_fields hpl
    have hkid : ∀ x ∈ kids d, sameF m (cleanF m (lv + 1) x) x = true := fun x hx => by
      obtain ⟨a, q, a', q', hq⟩ := parts_kid hp hx
      exact clean_same m r' (lv + 1) hq (hk x hx) (by omega)
    have hsort : sortK Prod.fst ((mD d).map fun x => (x.1, cleanF m (lv + 1) x.2)) = (mD d).map fun x => (x.1, cleanF m (lv + 1) x.2) :=
      sorted_id ((asc_srt hasc).map (k' := Prod.fst) (fun x : ByteArray × Dt => (x.1, cleanF m (lv + 1) x.2)) fun _ => rfl)
    have e : cleanF (m + 1) lv d = mkD (kD d) (if kD d = 2 ∨ kD d = 3 then nD d else 0) (if kD d = 4 then sD d else ⟨#[]⟩) (if kD d = 5 then (iD d).map (cleanF m (lv + 1)) else []) (if kD d = 6 then (mD d).map fun x => (x.1, cleanF m (lv + 1) x.2) else []) := by
      rw [cleanF, if_neg (by omega), hsort]
    have e1 : (if kD d = 2 ∨ kD d = 3 then nD d else 0) = nD d := by split <;> omega
    have e2 : (if kD d = 4 then sD d else ⟨#[]⟩ : ByteArray).toList = (sD d).toList := by
      split
      · rfl
      · rcases p2 with h | h
        · contradiction
        · rw [h, ByteArray.toList_eq]
    have e3 : (if kD d = 5 then (iD d).map (cleanF m (lv + 1)) else []) = (iD d).map (cleanF m (lv + 1)) := by
      split
      · rfl
      · rcases p3 with h | h
        · contradiction
        · rw [h]; rfl
    have e4 : (if kD d = 6 then (mD d).map fun x => (x.1, cleanF m (lv + 1) x.2) else []) = (mD d).map fun x => (x.1, cleanF m (lv + 1) x.2) := by
      split
      · rfl
      · rcases p4 with h | h
        · contradiction
        · rw [h]; rfl
    rw [e, e1, e3, e4]
    unfold sameF
    rw [kD_mk, nD_mk, sD_mk, iD_mk, mD_mk, zipD_map fun x hx => hkid x (is_kid hx), zipM_map fun x hx => hkid x.2 (ms_kid hx)]
    unfold diffQ
    rw [e2]
    simp
theorem same_zero (m : Nat) : sameF m zeroD zeroD = true := by
  cases m with
  | zero => rfl
  | succ m => unfold sameF; simp [zeroD, diffQ, zipD, zipM]
/-- Where steps lead in valid data, the data is valid. -/
theorem go_valid {w : World} {B m : Nat} : ∀ (l : List Sp) (r n : Nat) {d x : Dt} {A c A' c'}, Parts w B n d A c A' c' → n ≤ m → r ≤ 16 → checkF r d = 0 → goD d l = some x → ∃ r' n' a q a' q', r' ≤ 16 ∧ checkF r' x = 0 ∧ n' ≤ m ∧ Parts w B n' x a q a' q'
  | [], r, n, d, x, A, c, A', c', hp, hn, hr, hc, h => by
    injection h with h; subst h
    exact ⟨r, n, A, c, A', c', hr, hc, hn, hp⟩
  | s :: l, r, n, d, x, A, c, A', c', hp, hn, hr, hc, h => by
    rw [goD] at h
    split at h
    · cases h
    · rename_i y hy
      obtain ⟨r', rfl, _, hk⟩ := check_zero' hc
      have hkid := stepD_kid hy
      cases n with
      | zero => exact hp.elim
      | succ n =>
        obtain ⟨a, q, a', q', hq⟩ := parts_kid hp hkid
        exact go_valid l r' n hq (by omega) (by omega) (hk y hkid) h
/-- Fuel beyond the depth makes no difference to Same. -/
theorem clean_level {w : World} {B : Nat} : ∀ (m r : Nat) (lv lv' : Int) {d : Dt} {A c A' c'}, Parts w B m d A c A' c' → checkF r d = 0 → lv ≤ 17 - r → lv' ≤ 17 - r → cleanF m lv d = cleanF m lv' d
  | 0, _, _, _, _, _, _, _, _, hp, _, _, _ => hp.elim
  | m + 1, r, lv, lv', d, _, _, _, _, hp, hc, h1, h2 => by
    obtain ⟨r', rfl, ho, hk⟩ := check_zero' hc
    have hkid : ∀ x ∈ kids d, cleanF m (lv + 1) x = cleanF m (lv' + 1) x := fun x hx => by
      obtain ⟨a, q, a', q', hq⟩ := parts_kid hp hx
      exact clean_level m r' (lv + 1) (lv' + 1) hq (hk x hx) (by omega) (by omega)
    have e3 : (iD d).map (cleanF m (lv + 1)) = (iD d).map (cleanF m (lv' + 1)) := List.map_congr_left fun x hx => hkid x (is_kid hx)
    have e4 : ((mD d).map fun x => (x.1, cleanF m (lv + 1) x.2)) = (mD d).map fun x => (x.1, cleanF m (lv' + 1) x.2) := List.map_congr_left fun x hx => by rw [hkid x.2 (ms_kid hx)]
    have n1 : ¬ 16 < lv := by omega
    have n2 : ¬ 16 < lv' := by omega
    simp only [cleanF]
    rw [if_neg n1, if_neg n2, e3, e4]
end Go.Proofs.YtajpgmacabeeeaaDoor

/- The law of Get. -/
namespace Go.Proofs.YtajpgmacabeeeaaDoor
open Go.RowKit

theorem get_same {w : World} {B m : Nat} {d : Dt} {A c A' c'} (hp : Parts w B (m + 1) d A c A' c') (l : List Sp) :
    (getF (m + 1) d l).isSome = (if checkD d = 0 then goD d l else none).isSome ∧ sameF (m + 1) ((getF (m + 1) d l).getD zeroD) ((if checkD d = 0 then goD d l else none).getD zeroD) = true := by
  unfold getF
  by_cases hc : checkD d = 0
  · rw [if_pos hc, if_pos hc]
    cases h : goD d l with
    | none => exact ⟨rfl, same_zero _⟩
    | some x =>
      refine ⟨rfl, ?_⟩
      obtain ⟨r', n', a, q, a', q', h1, h2, h3, h4⟩ := go_valid (m := m + 1) l 16 (m + 1) hp (Nat.le_refl _) (Nat.le_refl _) hc h
      have h5 := h4.le h3
      show sameF (m + 1) (cleanF (m + 1) 1 x) x = true
      obtain ⟨r0, e, _⟩ := check_zero' h2
      rw [clean_level (m + 1) r' 1 (17 - r') h5 h2 (by omega) (by omega)]
      exact clean_same (m + 1) r' (17 - r') h5 h2 rfl
  · rw [if_neg hc, if_neg hc]; exact ⟨rfl, same_zero _⟩

set_option maxRecDepth 20000 in
set_option maxHeartbeats 2000000 in
theorem Gets_run (m : Nat) (d : Dt) (A : Option Addr) (c : Nat) (A' : Option Addr) (c' : Nat) (v : Value) (l : List Sp) (w : World) (hp : Parts w w.heap.size m d A c A' c') (hv : StepsR w w.heap.size v l) (ht : Tab w) :
    Calls Tryd.prog 7 #[datV d A c A' c', v] w (Fine w) := by
  obtain ⟨m, rfl⟩ : ∃ m', m = m' + 1 := by
    cases m with
    | zero => exact hp.elim
    | succ m => exact ⟨m, rfl⟩
  obtain ⟨S, cs, rfl, g1, g2, hS⟩ := hv
  have hm := maxLen_le g2
  have HST := hide fun w' (hB : Below w.heap.size w w') => show StepsR w' w'.heap.size (.slice S l.length cs) l from StepsR.turn ⟨S, cs, rfl, g1, g2, hS⟩ (Same.of_below hB) hB.size
  have HS := hide fun w' (hB : Below w.heap.size w w') => Small_run (m + 1) d A c A' c' w' (hp.turn (Same.of_below hB) hB.size)
  have HA := hide fun w' (hB : Below w.heap.size w w') => awake_run w' (tab_below ht hB)
  have HC := hide fun (h : smallF (m + 1) d = true) w' (hB : Below w.heap.size w w') => Get_run m d A c A' c' (.slice S l.length cs) l w' (hp.turn (Same.of_below hB) hB.size) (fun r => fitC_of_parts (m + 1) r hp (small_parts hp h)) (HST.out w' hB)
  have HR := hide fun w' (hB : Below w.heap.size w w') => refGet_run m d A c A' c' (.slice S l.length cs) l w' (hp.turn (Same.of_below hB) hB.size) (HST.out w' hB)
  have HSM := hide (get_same hp l)
  obtain ⟨o1, ho1⟩ : ∃ o, o = getF (m + 1) d l := ⟨_, rfl⟩
  obtain ⟨o2, ho2⟩ : ∃ o, o = (if checkD d = 0 then goD d l else none) := ⟨_, rfl⟩
  obtain ⟨N, hN⟩ : ∃ n, n = l.length := ⟨_, rfl⟩
  obtain ⟨b, hb⟩ : ∃ b, b = smallF (m + 1) d := ⟨_, rfl⟩
  rw [← ho1, ← ho2] at HSM
  rw [← ho1, ← hb, ← hN] at HC
  rw [← ho2, ← hN] at HR
  rw [← hb] at HS
  rw [← hN] at g1 ⊢
  unfold GetPost datV datCs at HC HR
  unfold datV datCs at HS
  unfold datV datCs
  obtain ⟨k, hk⟩ : ∃ k, k = kD d := ⟨_, rfl⟩
  obtain ⟨n, hn⟩ : ∃ k, k = nD d := ⟨_, rfl⟩
  obtain ⟨s, hs⟩ : ∃ k, k = sD d := ⟨_, rfl⟩
  obtain ⟨x, hx⟩ : ∃ k, k = (iD d).length := ⟨_, rfl⟩
  obtain ⟨y, hy⟩ : ∃ k, k = (mD d).length := ⟨_, rfl⟩
  rw [← hk, ← hn, ← hs, ← hx, ← hy] at HS HC HR ⊢
  clear hp hb hk hn hs hx hy ht ho1 ho2 hN g2 hS HST
  go_enter Tryd.func7, Tryd.ntmps7
  go_upto_region 1 with fail
  obtain ⟨w1, g, e1, e2, hBL, c0, c1, c2, c3, c4, hROW⟩ := boxD w k n s (.slice A x c) (.slice A' y c')
  rw [e1, e2]
  have HBL := hide hBL; have HROW := hide hROW
  clear e1 e2 hBL hROW
  go_wp2_with fail
  refine (HS.out _ HBL.out).mono ?_; rintro e w2 ⟨rfl, hB2⟩
  have HB2 := hide (HBL.out.trans (hB2.mono HBL.out.size))
  have HR2 := hide (HROW.out.below hB2)
  clear c0 c1 c2 c3 c4 hB2 HROW HS HBL
  cases b with
  | false =>
    go_wp2_with fail
    refine (HA.out _ HB2.out).mono ?_; rintro e w3 ⟨rfl, hB3⟩
    have HB3 := hide (HB2.out.trans (hB3.mono HB2.out.size))
    clear hB3
    go_wp2_with fail
    go_ret
    exact ⟨rfl, HB3.out⟩
  | true =>
    by_cases h40 : N > 40
    · have q1 : decide ((N : Int) > 40) = true := by simp; omega
      go_wp2_with fail
      refine (HA.out _ HB2.out).mono ?_; rintro e w3 ⟨rfl, hB3⟩
      have HB3 := hide (HB2.out.trans (hB3.mono HB2.out.size))
      clear hB3
      go_wp2_with fail
      go_ret
      exact ⟨rfl, HB3.out⟩
    · have q1 : decide ((N : Int) > 40) = false := by simp; omega
      have HC1 := hide (HC.out (by trivial))
      clear HC
      obtain ⟨c0, c1, c2, c3, c4⟩ := row5 HR2.out
      go_wp2_with fail
      refine (HC1.out _ HB2.out).mono ?_; rintro e w3 ⟨Y, ya, yq, ya', yq', rfl, hY, hPY, hB3⟩
      have HB3 := hide (HB2.out.trans (hB3.mono HB2.out.size)); have HPY := hide hPY; have HY := Lib.hid hY
      have HR3 := hide (HR2.out.below hB3)
      clear hB3 hPY hY c0 c1 c2 c3 c4 HR2 HC1 HB2
      go_upto_region 4 with fail
      obtain ⟨w4, g5, e1, e2, hB4, _, _, _, _, _, hR4⟩ := boxD w3 (kD Y) (nD Y) (sD Y) (.slice ya (iD Y).length yq) (.slice ya' (mD Y).length yq')
      rw [e1, e2]
      have HB4 := hide (HB3.out.trans (hB4.mono HB3.out.size)); have HPY4 := hide (HPY.out.turn (Same.of_below hB4) hB4.size)
      have HRY := hide hR4
      obtain ⟨c0, c1, c2, c3, c4⟩ := row5 (HR3.out.below hB4)
      clear e1 e2 hB4 hR4 HB3 HPY HR3
      go_wp2_with fail
      refine (HR.out _ HB4.out).mono ?_; rintro e w5 ⟨Z, za, zq, za', zq', rfl, hZ, hPZ, hB5⟩
      have HB5 := hide (HB4.out.trans (hB5.mono HB4.out.size)); have HPZ := hide hPZ; have HZ := Lib.hid hZ
      have HPY5 := hide (HPY4.out.turn (Same.of_below hB5) hB5.size)
      have HRY5 := hide (HRY.out.below hB5)
      clear hB5 hPZ hZ c0 c1 c2 c3 c4 HRY HPY4 HB4 HR
      go_upto_region 5 with fail
      obtain ⟨w6, g7, e1, e2, hB6, _, _, _, _, _, hR6⟩ := boxD w5 (kD Z) (nD Z) (sD Z) (.slice za (iD Z).length zq) (.slice za' (mD Z).length zq')
      rw [e1, e2]
      have HB6 := hide (HB5.out.trans (hB6.mono HB5.out.size))
      have HSAME := hide (same_run (m + 1) Y ya yq ya' yq' Z za zq za' zq' w6 (HPY5.out.turn (Same.of_below hB6) hB6.size) (HPZ.out.turn (Same.of_below hB6) hB6.size))
      rw [show sameF (m + 1) Y Z = true by rw [HY.out, HZ.out]; exact HSM.out.2] at HSAME
      unfold datV datCs at HSAME
      have hio := HSM.out.1
      rw [hio]
      obtain ⟨bo, hbo⟩ : ∃ b, b = o2.isSome := ⟨_, rfl⟩
      rw [← hbo]
      obtain ⟨c0, c1, c2, c3, c4⟩ := row5 (HRY5.out.below hB6)
      obtain ⟨d0, d1, d2, d3, d4⟩ := row5 hR6
      have g0 : (bo == bo) = true := by simp
      clear e1 e2 hB6 hR6 HB5 HPZ HPY5 HRY5 hio hbo
      go_wp2_with fail
      refine HSAME.out.mono ?_; rintro e w7 ⟨rfl, hB7⟩
      have HB7 := hide (HB6.out.trans (hB7.mono HB6.out.size))
      clear hB7 HSAME c0 c1 c2 c3 c4 d0 d1 d2 d3 d4
      go_wp2_with fail
      refine (HA.out _ HB7.out).mono ?_; rintro e w8 ⟨rfl, hB8⟩
      have HB8 := hide (HB7.out.trans (hB8.mono HB7.out.size))
      clear hB8
      go_wp2_with fail
      go_ret
      exact ⟨rfl, HB8.out⟩
end Go.Proofs.YtajpgmacabeeeaaDoor
