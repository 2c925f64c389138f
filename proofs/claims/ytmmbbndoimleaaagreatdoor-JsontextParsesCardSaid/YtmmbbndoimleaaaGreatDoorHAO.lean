/- structure of the reference's reader; strings.Join by a comma; the facts on texts that the printer's walk leans on; text of package jsontext's layout, indent false. -/
import Derived.Test.YtmmbbndoimleaaaGreatDoorHAN
import Derived.Test.YtmmbbndoimleaaaGreatDoorHAL

/- structure of the reference's reader. -/
namespace Go.Proofs.YtmmbbndoimleaaaGreatDoor
open Go.RowKit

/-- The state of reading a structure. -/
def MI (w : World) (g g2 g3 b0 m : Nat) (L : List (ByteArray × Dt)) (W : World) : Prop :=
  ∃ u, LSt w g g2 g3 b0 [.int .i64 6, .int .i64 0, .string ⟨#[]⟩, .slice none 0 0, u] W ∧ OwnM (PZ b0 none W m) W b0 u L
theorem MI.px {w wr W : World} {g g2 g3 b0 m : Nat} {L : List (ByteArray × Dt)} (h : MI w g g2 g3 b0 m L wr) (hX : Px g wr W) : MI w g g2 g3 b0 m L W := by
  obtain ⟨u, h1, h2⟩ := h
  exact ⟨u, h1.px hX, h2.px hX (by have := h1.1; omega)⟩
theorem MI.end_ {w0 wr : World} {S : ByteArray} {g g2 g3 b0 m p : Nat} {f : Flt} {r : Except Flt (Dt × Nat)} {L : List (ByteArray × Dt)} (h : MI w0 g g2 g3 b0 m L wr) (hR : Rdr wr g S p f) (hp : p ≤ S.size)
    (hr : f = (0, 0) ∧ r = .ok (mkD 6 0 ⟨#[]⟩ [] L, p) ∨ f.1 ≠ 0 ∧ r = .error f) :
    ∃ A c nl, Row wr g2 25 ZV ∧ Row wr g3 25 [.int .i64 6, .int .i64 0, .string ⟨#[]⟩, .slice none 0 0, .slice A nl c] ∧ ∀ x0 x1 x2 x3 x4, VR g S w0 (m + 1) r (.returned (.agg #[.int .i64 6, .int .i64 0, .string ⟨#[]⟩, .slice none 0 0, .slice A nl c])) (set5 wr g2 x0 x1 x2 x3 x4) := by
  obtain ⟨u, h1, h2⟩ := h
  obtain ⟨A, c, rfl⟩ := h2.form
  exact ⟨A, c, _, h1.2.2.2.1, h1.2.2.2.2, fun x0 x1 x2 x3 x4 => lst_end h1 (DZ.nil _ _ _) (h2.mzC (Nat.le_refl _)) hR hp hr x0 x1 x2 x3 x4⟩
/-- A label of a member. -/
theorem MI.label {w wr : World} {g g2 g3 b0 m i : Nat} {L : List (ByteArray × Dt)} (h : MI w g g2 g3 b0 m L wr) (hi : i < L.length) :
    ∃ ad c nl, nl = L.length ∧ nl ≤ c ∧ c ≤ maxLen ∧ wr.cell? ⟨g3, 4, none⟩ = some (.slice (some ad) nl c) ∧ wr.cell? (ad.add (i * 6)) = some (.string L[i].1) := by
  obtain ⟨u, h1, h2⟩ := h
  obtain ⟨A, c, rfl, g1, g2', hels⟩ := h2.mems
  obtain ⟨ad, rfl, hb, hlab, _⟩ := hels i _ (List.getElem?_eq_getElem hi)
  exact ⟨ad, c, _, rfl, g1, g2', h1.2.2.2.2.cell 4, hlab⟩
theorem MI.len {w wr : World} {g g2 g3 b0 m : Nat} {L : List (ByteArray × Dt)} (h : MI w g g2 g3 b0 m L wr) :
    ∃ A c nl, nl = L.length ∧ nl ≤ c ∧ c ≤ maxLen ∧ wr.cell? ⟨g3, 4, none⟩ = some (.slice A nl c) := by
  obtain ⟨u, h1, h2⟩ := h
  obtain ⟨A, c, rfl, g1, g2', _⟩ := h2.mems
  exact ⟨A, c, _, rfl, g1, g2', h1.2.2.2.2.cell 4⟩
/-- What str hands back, faults and all. -/
theorem rstr_both (S : ByteArray) (g i : Nat) (w : World) (h : Rdr w g S i (0, 0)) (hi : i ≤ S.size) (hS : S.size ≤ 1000000000) :
    Calls Tryz.prog 49 #[.pointer (some ⟨g, 0, none⟩)] w fun e w' => ∃ (T : ByteArray) (j : Nat) (f : Flt), e = .returned (.string T) ∧ j ≤ S.size ∧ Rdr w' g S j f ∧ Px g w w' ∧
      (f = (0, 0) ∧ strR S i ByteArray.empty = .ok (T, j) ∨ f.1 ≠ 0 ∧ strR S i ByteArray.empty = .error f) := by
  refine (rstr_run S g i w h hi hS).mono ?_
  intro e w' hp
  cases hs : strR S i ByteArray.empty with
  | error f =>
    rw [hs] at hp
    obtain ⟨T, q, hq, he, hr, hx⟩ := hp
    exact ⟨T, q, f, he, hq, hr, hx, .inr ⟨strL_err hs, rfl⟩⟩
  | ok p =>
    obtain ⟨T, j⟩ := p
    rw [hs] at hp
    obtain ⟨he, hr, hx⟩ := hp
    exact ⟨T, j, (0, 0), he, (strL_gain hs).2, hr, hx, .inl ⟨rfl, rfl⟩⟩

set_option maxRecDepth 100000 in
set_option maxHeartbeats 8000000 in
theorem rstruct_run (S : ByteArray) (g m i : Nat) (w : World) (h : Rdr w g S (i + 1) (0, 0)) (hi : i + 1 ≤ S.size) (hS : S.size ≤ 1000000000)
    (hv : ∀ k W, Rdr W g S k (0, 0) → i < k → k ≤ S.size → Calls Tryz.prog 27 #[.pointer (some ⟨g, 0, none⟩)] W (VR g S W m (clrV m S (valF S m (blk S k))))) :
    Calls Tryz.prog 51 #[.pointer (some ⟨g, 0, none⟩)] w (VR g S w (m + 1) (clrM m (sevF S 125 (memS S (valF S m)) [] i))) := by
  obtain ⟨r, hr⟩ : ∃ r, r = clrM m (sevF S 125 (memS S (valF S m)) [] i) := ⟨_, rfl⟩
  rw [← hr]
  obtain ⟨k0, hk0⟩ : ∃ k, k = blk S (i + 1) := ⟨_, rfl⟩
  have hik : i < k0 := by have : i + 1 ≤ blk S (i + 1) := run_ge _ _ _; omega
  have hks : k0 ≤ S.size := by rw [hk0]; exact run_le _ hi
  unfold sevF at hr
  rw [← hk0] at hr
  have HBL := hide fun k f V (h : Rdr V g S k f) (hk : k ≤ S.size) => rblanks_run S g k f V h hS hk
  have HBL0 := hide fun V (h : Rdr V g S (i + 1) (0, 0)) => rblanks_run S g (i + 1) (0, 0) V h hS hi
  rw [show blkR S (i + 1) (0, 0) = k0 by rw [hk0]; rfl] at HBL0
  have HIS := hide fun c p f V (h : Rdr V g S p f) (hc : c ≠ 0) (hp : p ≤ S.size) => is_run S g p c f V h hc (by omega)
  have HF := hide fun (e a : Int) (k : Nat) f V (h : Rdr V g S k f) => rfail_run S g k f e a V h
  have HSTR := hide fun k V (h : Rdr V g S k (0, 0)) (hk : k ≤ S.size) => rstr_both S g k V h hk hS
  have HV := hide hv
  unfold VR datV datCs at HV
  have HINS := hide fun (b0 : Nat) (w4 : World) (v : Value) (L : List (ByteArray × Dt)) (x : ByteArray × Dt) a c a' c' h1 h2 h3 h4 => rinsert_run (PZ b0 none w4 m) b0 v L x a c a' c' w4 h1 h2 h3 h4
  unfold memV memCs datCs at HINS
  have HR := Lib.hid hr
  have hgl := h.lt
  have HP := hide h
  clear hr hk0 h hv
  go_enter Tryz.func51, Tryz.ntmps51
  go_upto_region 2 with fail
  obtain ⟨w1, g2, e1, e2, hB1, _, _, _, _, _, hR1⟩ := boxD w 0 0 ⟨#[]⟩ (.slice none 0 0) (.slice none 0 0)
  obtain ⟨w2, g3, e3, e4, hB2, _, _, _, _, _, hR2⟩ := boxD w1 6 0 ⟨#[]⟩ (.slice none 0 0) (.slice none 0 0)
  have e5 : g3 = g2 + 1 := by rw [← e4, ← e1, ← e2]; simp
  have e6 : w2.heap.size = g3 + 1 := by rw [← e3, ← e4]; simp
  obtain ⟨b0, hb0⟩ : ∃ b, b = g2 + 2 := ⟨_, rfl⟩
  have HI0 := hide (show MI w g g2 g3 b0 m [] w2 from ⟨_, ⟨⟨e2, e5, hb0, by omega⟩, by omega, Px.of_below (hB1.trans (hB2.mono hB1.size)), hR1.below hB2, hR2⟩, ⟨[], World.ownsRow_nil _ _ _ _, rfl⟩⟩)
  have HP2 := hide (show Rdr w2 g S (i + 1) (0, 0) from (HP.out.below hB1).below hB2)
  rw [e1, e2, e3, show g2 + 1 = g3 from e5.symm]
  clear e1 e2 e3 e4 e6 hB1 hB2 hR1 hR2 hb0 HP hgl e5
  go_wp2_with fail
  refine (HBL0.out _ HP2.out).mono ?_; rintro e w3 ⟨rfl, hr3, hx3⟩
  have HP3 := hide hr3
  have HI3 := hide (HI0.out.px hx3)
  clear hr3 hx3 HP2 HI0 HBL0
  obtain ⟨z, hz⟩ : ∃ z, z = isB S k0 125 (0, 0) := ⟨_, rfl⟩
  have HIS1 := hide (HIS.out 125 k0 (0, 0) _ HP3.out (by decide) hks)
  rw [← hz] at HIS1
  cases z with
  | true =>
    have h93 : nx S k0 = 125 := by unfold isB at hz; simpa using hz.symm
    have hin := nx_in (S := S) (i := k0) (by rw [h93]; decide)
    have HE := hide (show r = .ok (mkD 6 0 ⟨#[]⟩ [] [], k0 + 1) by rw [HR.out, if_pos h93]; rfl)
    clear h93 hz HR
    go_wp2_with fail
    refine HIS1.out.mono ?_; rintro e w4 ⟨rfl, hr4, hx4⟩
    obtain ⟨A, c, nl, hz2, hz3, hfin⟩ := (HI3.out.px hx4).end_ (r := r) hr4 hin (.inl ⟨rfl, HE.out⟩)
    have HZ2 := hide hz2; have HFIN := hide hfin
    obtain ⟨t0, t1, t2, t3, t4⟩ := row5 hz3
    obtain ⟨r0, r1, r2, r3, r4⟩ := row5 hz2
    have f0 := hz2.frozen 0
    have f1 := hz2.frozen 1
    have f2 := hz2.frozen 2
    have f3 := hz2.frozen 3
    have f4 := hz2.frozen 4
    clear hr4 hx4 HI3 HP3 HIS1 hz2 hz3 hfin
    go_wp2_with fail
    refine bodyPost_ret (results_dat rfl _ _ g2 _ _ _ _ _ rfl (row_set5 HZ2.out _ _ _ _ _)) rfl ?_
    exact HFIN.out _ _ _ _ _
  | false =>
    have h93 : nx S k0 ≠ 125 := by unfold isB at hz; simpa using hz.symm
    have HLR := hide (show MR S m r i k0 (0, 0) [] from .inl ⟨rfl, hik, Nat.zero_le _, [], rfl, by rw [HR.out, if_neg h93]⟩)
    clear h93 hz HR
    go_wp2_with fail
    refine HIS1.out.mono ?_; rintro e w4 ⟨rfl, hr4, hx4⟩
    have HP4 := hide (show Rdr w4 g S k0 (0, 0) from hr4)
    have HI4 := hide (HI3.out.px hx4)
    clear hr4 hx4 HI3 HP3 HIS1
    go_wp2_with fail
    go_loopw [4, 5, 6] (fun _ _ _ wr => ∃ (k : Nat) (f : Flt) (L : List (ByteArray × Dt)), k ≤ S.size ∧ Hid (MI w g g2 g3 b0 m L wr ∧ Rdr wr g S k f ∧ MR S m r i k f L)) (fun _ _ _ wr => strM S g wr)
    case atStart => exact ⟨k0, (0, 0), [], hks, hide ⟨HI4.out, HP4.out, HLR.out⟩⟩
    case round =>
      clear HI4 HP4 HLR
      obtain ⟨k, f, L, hk, hH⟩ := hrel
      by_cases hf : f.1 = 0
      · have hf0 : f = (0, 0) := by
          rcases hH.out.2.2 with ⟨e, _⟩ | ⟨e, _⟩
          · exact e
          · exact absurd hf e
        subst hf0
        clear hf
        have hik2 : i < k ∧ L.length ≤ k := by
          rcases hH.out.2.2 with ⟨_, e, e2, _⟩ | ⟨e, _⟩
          · exact ⟨e, e2⟩
          · exact absurd rfl e
        have HPR := hide hH.out.2.1; have HLR := hide hH.out.2.2; have HMI := hide hH.out.1
        have HAT := hide (strM_ok hH.out.2.1)
        obtain ⟨c0, c1, c2, c3⟩ := HPR.out.cells
        obtain ⟨q, hq⟩ : ∃ q, q = blk S k := ⟨_, rfl⟩
        have hqs : q ≤ S.size := by rw [hq]; exact run_le _ hk
        have HQ := Lib.hid hq
        have HBL1 := hide fun V (h : Rdr V g S k (0, 0)) => HBL.out k (0, 0) V h hk
        rw [show blkR S k (0, 0) = q by rw [hq]; rfl] at HBL1
        clear hH hq
        go_wp2_with fail
        refine (HBL1.out _ HPR.out).mono ?_; rintro e w5 ⟨rfl, hr5, hx5⟩
        have HR5 := hide (show Rdr w5 g S q (0, 0) from hr5)
        have HI5 := hide (HMI.out.px hx5)
        clear hr5 hx5 HPR HMI HBL1 c0 c1 c2 c3
        obtain ⟨c0, c1, c2, c3⟩ := HR5.out.cells
        obtain ⟨z, hz⟩ : ∃ z, z = isB S q 34 (0, 0) := ⟨_, rfl⟩
        have HIS1 := hide fun V (h : Rdr V g S q (0, 0)) => HIS.out 34 q (0, 0) V h (by decide) hqs
        rw [← hz] at HIS1
        cases z with
        | false =>
          have HE := hide (show r = .error (19, (q : Int)) by
            rw [HQ.out]
            exact mem_quote HLR.out hk (by rw [← HQ.out]; unfold isB at hz; simpa using hz.symm))
          have HFF := hide fun V (h : Rdr V g S q (0, 0)) => HF.out 19 (q : Int) q (0, 0) V h
          rw [show keepF (0, 0) (19, (q : Int)) = (19, (q : Int)) from if_pos rfl] at HFF
          clear hz HLR
          go_wp2_with fail
          refine (HIS1.out _ HR5.out).mono ?_; rintro e w6 ⟨rfl, hr6, hx6⟩
          have HR6 := hide (show Rdr w6 g S q (0, 0) from hr6)
          have HI6 := hide (HI5.out.px hx6)
          clear hr6 hx6 HR5 HI5 HIS1 c0 c1 c2 c3
          obtain ⟨c0, c1, c2, c3⟩ := HR6.out.cells
          go_wp2_with fail
          refine (HFF.out _ HR6.out).mono ?_; rintro e w7 ⟨rfl, hr7, hx7⟩
          obtain ⟨A, c, nl, hz2, hz3, hfin⟩ := (HI6.out.px hx7).end_ (r := r) hr7 hqs (.inr ⟨by show (19 : Int) ≠ 0; decide, HE.out⟩)
          have HZ2 := hide hz2; have HFIN := hide hfin
          clear c0 c1 c2 c3
          obtain ⟨t0, t1, t2, t3, t4⟩ := row5 hz3
          obtain ⟨r0, r1, r2, r3, r4⟩ := row5 hz2
          have f0 := hz2.frozen 0
          have f1 := hz2.frozen 1
          have f2 := hz2.frozen 2
          have f3 := hz2.frozen 3
          have f4 := hz2.frozen 4
          clear hr7 hx7 HI6 HR6 hz2 hz3 hfin
          go_wp2_with fail
          refine bodyPost_ret (results_dat rfl _ _ g2 _ _ _ _ _ rfl (row_set5 HZ2.out _ _ _ _ _)) rfl ?_
          exact HFIN.out _ _ _ _ _
        | true =>
          have h34 : nx S q = 34 := by unfold isB at hz; simpa using hz.symm
          have hq1 : q + 1 ≤ S.size := by have := nx_in (S := S) (i := q) (by rw [h34]; decide); omega
          have H34 := Lib.hid h34
          clear hz h34
          go_wp2_with fail
          refine (HIS1.out _ HR5.out).mono ?_; rintro e w6 ⟨rfl, hr6, hx6⟩
          have HR6 := hide (show Rdr w6 g S (q + 1) (0, 0) from hr6)
          have HI6 := hide (HI5.out.px hx6)
          clear hr6 hx6 HR5 HI5 HIS1 c0 c1 c2 c3
          go_wp2_with fail
          refine (HSTR.out (q + 1) _ HR6.out hq1).mono ?_; rintro e w7 ⟨T, j, f0, rfl, hjs, hr7, hx7, hcase⟩
          have HCASE := hide hcase
          have HD0 := hide (show dupF f0 q T (L.take 0) = f0 from dup_nil (hcase.imp And.left And.left))
          have HR7 := hide hr7
          have HI7 := hide (HI6.out.px hx7)
          clear hr7 hx7 HR6 HI6 hcase
          obtain ⟨n, hn⟩ : ∃ n, n = L.length := ⟨_, rfl⟩
          have HN := Lib.hid hn
          rw [← hn] at hik2
          clear hn
          go_wp2_with fail
          go_loopw [6] (fun iv wr => ∃ x : Nat, iv = .int .i64 x ∧ x ≤ n ∧ Hid (MI w g g2 g3 b0 m L wr ∧ Rdr wr g S j (dupF f0 q T (L.take x)))) (fun iv _ => n - (intOf iv).toNat)
          case atStart => exact ⟨0, rfl, Nat.zero_le _, hide ⟨HI7.out, by rw [HD0.out]; exact HR7.out⟩⟩
          case round =>
            clear HI7 HR7 HD0
            obtain ⟨x, rfl, hx, hH⟩ := hrel
            by_cases hlt : x < n
            · have hlt' : x < L.length := by rw [← HN.out]; exact hlt
              obtain ⟨ad, c, nl, hnl, hnc, hcm, hcell, hlab⟩ := hH.out.1.label hlt'
              obtain ⟨Y, hY⟩ : ∃ Y, Y = L[x] := ⟨_, rfl⟩
              rw [← hY] at hlab
              have htk : L.take (x + 1) = L.take x ++ [Y] := by rw [List.take_add_one, List.getElem?_eq_getElem hlt', ← hY]; rfl
              have hnn : nl = n := by rw [hnl]; exact HN.out.symm
              subst hnn
              have hm1 := maxLen_le hcm
              obtain ⟨eq, heq⟩ : ∃ b, b = (Y.1.toList == T.toList) := ⟨_, rfl⟩
              have HR8 := hide hH.out.2; have HI8 := hide hH.out.1
              obtain ⟨F, hF⟩ : ∃ F, F = dupF f0 q T (L.take x) := ⟨_, rfl⟩
              rw [← hF] at HR8
              have hEQ : (Y.1.toList == T.toList) = eq := heq.symm
              cases eq with
              | true =>
                have HFN := hide (show keepF F (6, (q : Int)) = dupF f0 q T (L.take (x + 1)) by rw [htk, hF]; exact dup_yes hEQ)
                have HFF := hide fun V (h : Rdr V g S j F) => HF.out 6 (q : Int) j F V h
                clear hF hH hY htk hlt' heq hnl
                go_wp2_with fail
                refine (HFF.out _ HR8.out).mono ?_; rintro e w9 ⟨rfl, hr9, hx9⟩
                have HR9 := hide hr9; have HI9 := hide (HI8.out.px hx9)
                clear hr9 hx9 HR8 HI8 HFF hcell hlab
                go_wp2_with fail
                go_roundw
                case rel => exact ⟨x + 1, by go_num, by omega, hide ⟨HI9.out, by rw [← HFN.out]; exact HR9.out⟩⟩
                case measure => simp [intOf]; omega
              | false =>
                have HFN := hide (show F = dupF f0 q T (L.take (x + 1)) by rw [htk, hF]; exact dup_no hEQ)
                clear hF hH hY htk hlt' heq hnl
                go_wp2_with fail
                go_roundw
                case rel => exact ⟨x + 1, by go_num, by omega, hide ⟨HI8.out, by rw [← HFN.out]; exact HR8.out⟩⟩
                case measure => simp [intOf]; omega
            · obtain rfl : x = n := by omega
              obtain ⟨F, hF⟩ : ∃ F, F = dupF f0 q T L := ⟨_, rfl⟩
              have HR8 := hide (show Rdr wr g S j F by have := hH.out.2; rw [show L.take x = L by rw [HN.out, List.take_length]] at this; rw [hF]; exact this)
              have HI8 := hide hH.out.1
              obtain ⟨A8, c8, nl, hnl, hnc, hcm, hcell⟩ := hH.out.1.len
              have hnn : nl = x := by rw [hnl]; exact HN.out.symm
              subst hnn
              obtain ⟨j', hj'⟩ : ∃ j', j' = blkR S j F := ⟨_, rfl⟩
              have hj's : j' ≤ S.size := by
                rw [hj']; unfold blkR; split
                · exact run_le _ hjs
                · exact hjs
              have HMC := hide (mem_colon HLR.out hk (by rw [← HQ.out]; exact H34.out) (by rw [← HQ.out]; exact HCASE.out) (by rw [← HQ.out]; exact hF) hj')
              have HBL1 := hide fun V (h : Rdr V g S j F) => HBL.out j F V h hjs
              rw [← hj'] at HBL1
              clear hF hj' hH hlt hnl HCASE HLR H34
              go_wp2_with fail
              refine (HBL1.out _ HR8.out).mono ?_; rintro e w9 ⟨rfl, hr9, hx9⟩
              have HR9 := hide (show Rdr w9 g S j' F from hr9); have HI9 := hide (HI8.out.px hx9)
              clear hr9 hx9 HR8 HI8 HBL1 hcell
              obtain ⟨z, hz⟩ : ∃ z, z = isB S j' 58 F := ⟨_, rfl⟩
              have HIS1 := hide fun V (h : Rdr V g S j' F) => HIS.out 58 j' F V h (by decide) hj's
              rw [← hz] at HIS1
              cases z with
              | false =>
                obtain ⟨hne, hre⟩ := HMC.out.1 hz.symm
                have HNE := hide hne; have HRE := hide hre
                have HFF := hide fun V (h : Rdr V g S j' F) => HF.out 19 (j' : Int) j' F V h
                clear hz hne hre HMC
                go_wp2_with fail
                refine (HIS1.out _ HR9.out).mono ?_; rintro e w10 ⟨rfl, hr10, hx10⟩
                have HR10 := hide (show Rdr w10 g S j' F from hr10); have HI10 := hide (HI9.out.px hx10)
                clear hr10 hx10 HR9 HI9 HIS1
                obtain ⟨c0, c1, c2, c3⟩ := HR10.out.cells
                go_wp2_with fail
                refine (HFF.out _ HR10.out).mono ?_; rintro e w11 ⟨rfl, hr11, hx11⟩
                obtain ⟨A, c, nl, hz2, hz3, hfin⟩ := (HI10.out.px hx11).end_ (r := r) hr11 hj's (.inr ⟨HNE.out, HRE.out⟩)
                have HZ2 := hide hz2; have HFIN := hide hfin
                clear c0 c1 c2 c3
                obtain ⟨t0, t1, t2, t3, t4⟩ := row5 hz3
                obtain ⟨r0, r1, r2, r3, r4⟩ := row5 hz2
                have f0 := hz2.frozen 0
                have f1 := hz2.frozen 1
                have f2 := hz2.frozen 2
                have f3 := hz2.frozen 3
                have f4 := hz2.frozen 4
                clear hr11 hx11 HI10 HR10 hz2 hz3 hfin
                go_wp2_with fail
                refine bodyPost_ret (results_dat rfl _ _ g2 _ _ _ _ _ rfl (row_set5 HZ2.out _ _ _ _ _)) rfl ?_
                exact HFIN.out _ _ _ _ _
              | true =>
                obtain ⟨rfl, hij, hj1, hdis, hstep⟩ := HMC.out.2 hz.symm
                have HDIS := hide hdis; have HSTEP0 := hide hstep
                have HV1 := hide fun V (h : Rdr V g S (j' + 1) (0, 0)) => HV.out (j' + 1) V h hij hj1
                clear hz hdis hstep HMC
                go_wp2_with fail
                refine (HIS1.out _ HR9.out).mono ?_; rintro e w10 ⟨rfl, hr10, hx10⟩
                have HR10 := hide (show Rdr w10 g S (j' + 1) (0, 0) from hr10); have HI10 := hide (HI9.out.px hx10)
                clear hr10 hx10 HR9 HI9 HIS1
                obtain ⟨u, hL, hO⟩ := HI10.out
                have HST := hide hL; have HO := hide hO
                have HCELL := hide fun W (hX : Px g w10 W) => (show W.cell? ⟨g3, 4, none⟩ = some u from (HST.out.px hX).2.2.2.2.cell 4)
                have hb0 := HST.out.2.1
                have hgb : g < b0 := by have := HST.out.1; omega
                have hg3b : g3 < b0 := by have := HST.out.1; omega
                clear hL hO HI10
                go_upto_region 21 with fail
                refine region_two 6 (fun W => W.cell? ⟨g3, 4, none⟩ = some u) (by kernel_rfl) (by kernel_rfl) (HCELL.out _ Px.refl.drew) (fun hH => ?_)
                simp only [List.take_succ_cons, List.take_zero]
                refine takeH (i := 0) (v := ?_) rfl (by kernel_rfl) (by kernel_rfl) (by kernel_rfl) (fun _ _ _ h => h) (Or.inl ⟨by rfl, ?_⟩) hH ?_
                rotate_left
                · (intro w hSw; (try dsimp only at hSw); go_simp; try with_reducible rfl)
                simp only [Act.put, List.setIfInBounds_toArray, List.set_cons_zero, List.set_cons_succ]
                refine takeH (i := 1) (v := ?_) rfl (by kernel_rfl) (by kernel_rfl) (by kernel_rfl) (fun _ _ _ h => h) (Or.inl ⟨by rfl, ?_⟩) hH ?_
                rotate_left
                · (intro w hSw; (try dsimp only at hSw); go_simp; try with_reducible rfl)
                simp only [Act.put, List.setIfInBounds_toArray, List.set_cons_zero, List.set_cons_succ]
                refine takeH (i := 2) (v := ?_) rfl (by kernel_rfl) (by kernel_rfl) (by kernel_rfl) (fun _ _ _ h => h) (Or.inl ⟨by rfl, ?_⟩) hH ?_
                rotate_left
                · (intro w hSw; (try dsimp only at hSw); go_simp; try with_reducible rfl)
                simp only [Act.put, List.setIfInBounds_toArray, List.set_cons_zero, List.set_cons_succ]
                refine takeH (i := 3) (v := ?_) rfl (by kernel_rfl) (by kernel_rfl) (by kernel_rfl) (fun _ _ _ h => h) (Or.inl ⟨by rfl, ?_⟩) hH ?_
                rotate_left
                · (intro w hSw; (try dsimp only at hSw); go_simp; try with_reducible rfl)
                simp only [Act.put, List.setIfInBounds_toArray, List.set_cons_zero, List.set_cons_succ]
                refine oneH (i := 4) rfl (by kernel_rfl) (fun K hK => ?_)
                go_simp
                go_at_call 27
                refine (HV1.out w10.drew (HR10.out.drewN 1)).mono ?_; rintro e w4 ⟨d, a, c, a', c', p, f, rfl, hP4, hp4, hR4, hX4, hcase⟩
                have hX5 : Px g w10 w4 := Px.refl.drew.trans hX4
                have HR4 := hide hR4; have HX5 := hide hX5; have HP4 := hide (pz_lo (show PZ w10.heap.size none w4 m d a c a' c' from hP4) hb0)
                have HSTEP := hide (HSTEP0.out d p f hp4 hcase)
                clear hR4 hX4 hP4 hcase HV1 HSTEP0
                refine hK.out _ _ (HCELL.out _ HX5.out) (fun hH => ?_)
                clear hK K
                refine takeH (i := 5) (v := ?_) rfl (by kernel_rfl) (by kernel_rfl) (by kernel_rfl) (fun _ _ _ h => h) (Or.inl ⟨by rfl, ?_⟩) hH ?_
                rotate_left
                · (intro w hSw; (try dsimp only at hSw); go_simp; try with_reducible rfl)
                simp only [Act.put, List.setIfInBounds_toArray, List.set_cons_zero, List.set_cons_succ]
                refine wpAnyH_done (by kernel_rfl) ?_ _
                unfold TailPost
                simp only [List.drop_succ_cons, List.drop_zero]
                have HS4 := hide (HST.out.px HX5.out)
                have HO4 := hide (HO.out.px HX5.out hgb)
                have HINT := hide (HINS.out b0 w4 u L (T, d) a c a' c' HO4.out HP4.out (by rw [← HN.out]; omega) HDIS.out)
                clear hH HO HST HX5 HCELL HR10
                go_wp2_with fail
                refine HINT.out.mono ?_; rintro e w6 ⟨u6, rfl, hB6, hO6⟩
                obtain ⟨A6, c6, hu6⟩ := hO6.form
                obtain ⟨n6, hn6⟩ : ∃ N, N = (insK Prod.fst (T, d) L).length := ⟨_, rfl⟩
                rw [← hn6] at hu6
                subst hu6
                clear hn6
                have HS6 := hide (HS4.out.below hB6)
                have HR6 := hide (HR4.out.below hB6)
                have HO6 := hide (show OwnM (PZ b0 none w6 m) w6 b0 (.slice A6 n6 c6) (insK Prod.fst (T, d) L) from by
                  obtain ⟨zs, ho, hf⟩ := hO6
                  exact ⟨zs, own_mono ho HS4.out.2.1, hf.turn fun _ _ _ _ _ h => pz_below h hB6⟩)
                have z3 : w6.cell? ⟨g3, 4, none⟩ = some u := HS6.out.2.2.2.2.cell 4
                have zf := HS6.out.2.2.2.2.frozen 4
                obtain ⟨W6, hW6⟩ : ∃ W, W = w6.setCell ⟨g3, 4, none⟩ (.slice A6 n6 c6) := ⟨_, rfl⟩
                have HI6 := hide (show MI w g g2 g3 b0 m (insK Prod.fst (T, d) L) W6 by rw [hW6]; exact ⟨_, HS6.out.set 4 _, into_set HO6.out hg3b _⟩)
                have HR7 := hide (show Rdr W6 g S p f by rw [hW6]; exact Row.far HR6.out (by show g ≠ g3; have := HS6.out.1; omega) _)
                clear hB6 hO6 HS4 HO4 HINT HR4 HP4 HS6 HR6 HO6
                have HW6 := Lib.hid hW6
                clear hW6
                go_upto_region 22 with fail
                rw [← HW6.out]
                clear HW6 z3 zf
                obtain ⟨z, hz⟩ : ∃ z, z = isB S p 125 f := ⟨_, rfl⟩
                have HIS1 := hide (HIS.out 125 p f _ HR7.out (by decide) hp4)
                rw [← hz] at HIS1
                cases z with
                | true =>
                  obtain ⟨rfl, hp1, hre⟩ := HSTEP.out.1 hz.symm
                  have HE := hide hre
                  clear hz hre HSTEP
                  go_wp2_with fail
                  refine HIS1.out.mono ?_; rintro e w7 ⟨rfl, hr7, hx7⟩
                  obtain ⟨A, c, nl, hz2, hz3, hfin⟩ := (HI6.out.px hx7).end_ (r := r) hr7 hp1 (.inl ⟨rfl, HE.out⟩)
                  have HZ2 := hide hz2; have HFIN := hide hfin
                  obtain ⟨t0, t1, t2, t3, t4⟩ := row5 hz3
                  obtain ⟨r0, r1, r2, r3, r4⟩ := row5 hz2
                  have f0 := hz2.frozen 0
                  have f1 := hz2.frozen 1
                  have f2 := hz2.frozen 2
                  have f3 := hz2.frozen 3
                  have f4 := hz2.frozen 4
                  clear hr7 hx7 HI6 HR7 HIS1 hz2 hz3 hfin
                  go_wp2_with fail
                  refine bodyPost_ret (results_dat rfl _ _ g2 _ _ _ _ _ rfl (row_set5 HZ2.out _ _ _ _ _)) rfl ?_
                  exact HFIN.out _ _ _ _ _
                | false =>
                  obtain ⟨z2, hz2⟩ : ∃ z, z = isB S p 44 f := ⟨_, rfl⟩
                  cases z2 with
                  | true =>
                    obtain ⟨hkp, hp1, hlr⟩ := HSTEP.out.2.1 hz.symm hz2.symm
                    have hf0 : f = (0, 0) := by
                      rcases hlr with ⟨e, _⟩ | ⟨e, _⟩
                      · exact e
                      · unfold isB at hz2
                        have : (f.1 == 0) = false := by simpa using e
                        rw [this] at hz2; cases hz2
                    subst hf0
                    have HLR := hide hlr
                    have HIS2 := hide fun V (h : Rdr V g S p (0, 0)) => HIS.out 44 p (0, 0) V h (by decide) hp4
                    rw [← hz2] at HIS2
                    clear hz hz2 hlr HSTEP
                    go_wp2_with fail
                    refine HIS1.out.mono ?_; rintro e w7 ⟨rfl, hr7, hx7⟩
                    have HR8 := hide (show Rdr w7 g S p (0, 0) from hr7); have HI7 := hide (HI6.out.px hx7)
                    clear hr7 hx7 HR7 HI6 HIS1
                    go_wp2_with fail
                    refine (HIS2.out _ HR8.out).mono ?_; rintro e w8 ⟨rfl, hr8, hx8⟩
                    have HR9 := hide (show Rdr w8 g S (p + 1) (0, 0) from hr8); have HI8 := hide (HI7.out.px hx8)
                    clear hr8 hx8 HR8 HI7 HIS2
                    go_wp2_with fail
                    go_roundw
                    case rel => exact ⟨p + 1, (0, 0), _, hp1, hide ⟨HI8.out, HR9.out, HLR.out⟩⟩
                    case measure => rw [HAT.out, strM_ok HR9.out]; omega
                  | false =>
                    obtain ⟨hlr, hne⟩ := HSTEP.out.2.2 hz.symm hz2.symm
                    have HLR := hide hlr; have HNE := hide hne
                    have HIS2 := hide fun V (h : Rdr V g S p f) => HIS.out 44 p f V h (by decide) hp4
                    rw [← hz2] at HIS2
                    have HFF := hide fun V (h : Rdr V g S p f) => HF.out 19 (p : Int) p f V h
                    clear hz hz2 hlr hne HSTEP
                    go_wp2_with fail
                    refine HIS1.out.mono ?_; rintro e w7 ⟨rfl, hr7, hx7⟩
                    have HR8 := hide (show Rdr w7 g S p f from hr7); have HI7 := hide (HI6.out.px hx7)
                    clear hr7 hx7 HR7 HI6 HIS1
                    go_wp2_with fail
                    refine (HIS2.out _ HR8.out).mono ?_; rintro e w8 ⟨rfl, hr8, hx8⟩
                    have HR9 := hide (show Rdr w8 g S p f from hr8); have HI8 := hide (HI7.out.px hx8)
                    clear hr8 hx8 HR8 HI7 HIS2
                    obtain ⟨c0, c1, c2, c3⟩ := HR9.out.cells
                    go_wp2_with fail
                    refine (HFF.out _ HR9.out).mono ?_; rintro e w9 ⟨rfl, hr9, hx9⟩
                    have HR10 := hide hr9; have HI9 := hide (HI8.out.px hx9)
                    clear hr9 hx9 HR9 HI8 HFF c0 c1 c2 c3
                    go_wp2_with fail
                    go_roundw
                    case rel => exact ⟨p, _, _, hp4, hide ⟨HI9.out, HR10.out, HLR.out⟩⟩
                    case measure => rw [HAT.out, strM_bad HR10.out HNE.out]; omega
      · have HNF := hide hf
        have hd1 : (f.1 == 0) = false := by simpa using hf
        have hre : r = .error f := by
          rcases hH.out.2.2 with ⟨e, _⟩ | ⟨_, _, e⟩
          · rw [e] at hf; exact absurd rfl hf
          · exact e
        obtain ⟨A, c, nl, hz2, hz3, hfin⟩ := hH.out.1.end_ (r := r) hH.out.2.1 hk (.inr ⟨hf, hre⟩)
        have HZ2 := hide hz2; have HFIN := hide hfin
        obtain ⟨t0, t1, t2, t3, t4⟩ := row5 hz3
        obtain ⟨r0, r1, r2, r3, r4⟩ := row5 hz2
        obtain ⟨c0, c1, c2, c3⟩ := hH.out.2.1.cells
        have f0 := hz2.frozen 0
        have f1 := hz2.frozen 1
        have f2 := hz2.frozen 2
        have f3 := hz2.frozen 3
        have f4 := hz2.frozen 4
        clear hz2 hz3 hfin hH hre hf
        go_wp2_with fail
        refine bodyPost_ret (results_dat rfl _ _ g2 _ _ _ _ _ rfl (row_set5 HZ2.out _ _ _ _ _)) rfl ?_
        exact HFIN.out _ _ _ _ _
end Go.Proofs.YtmmbbndoimleaaaGreatDoor

/- strings.Join by a comma; the facts on texts that the printer's walk leans on. -/
namespace Go.Proofs.YtmmbbndoimleaaaGreatDoor
open Go.RowKit Go.Shelf

theorem joinC_run (u : Value) (l : List ByteArray) (base : Nat) (w : World) (hown : w.ownsRow base 9 1 u l.length (strsV l)) (hl : sumN (fun x => x.size + 1) l ≤ 1000000000) :
    Calls Tryz.prog 61 #[u, .string ⟨#[44]⟩] w fun r w' => r = .returned (.string (joinC l)) ∧ Below w.heap.size w w' := by
  have hlen : l.length ≤ 1000000000 := Nat.le_trans (sumN_len (fun x : ByteArray => x.size + 1) (fun x => by omega) l) hl
  have hjl := joinC_len l
  unfold joinC
  rcases hown.2 with ⟨rfl, hn⟩ | ⟨g, cap, cur, rfl, hb, hg, hc, _⟩
  · have : l = [] := List.eq_nil_of_length_eq_zero hn
    subst this
    exact (Any.strings_Join_none joinL joinExtra none 0 ⟨#[44]⟩ w).mono fun e w' ⟨he, hw⟩ => ⟨he, hw ▸ Below.refl _ _⟩
  · have hgl : g < w.heap.size := (Array.getElem?_eq_some_iff.1 hg).1
    exact Any.strings_Join joinL joinExtra g 0 cap l ⟨#[44]⟩ w (fun j x hx => by
      rw [Nat.zero_add]
      have := hown.cells rfl j _ (strsV_get hx)
      rw [add_head] at this
      exact this) (by omega) (by omega) hc (by show (Lib.join (l.map (·.data.toList)) [44]).length ≤ _; omega)
theorem own_form {w : World} {base : Nat} {e : TypeId} {size n : Nat} {u : Value} {xs : List Value} (h : w.ownsRow base e size u n xs) : ∃ A c, u = .slice A n c := by
  rcases h.2 with ⟨rfl, hn⟩ | ⟨g, cap, cur, rfl, _⟩
  · exact ⟨none, 0, by rw [hn]⟩
  · exact ⟨_, _, rfl⟩
theorem jbF_kids {m : Nat} {d : Dt} : (∀ x ∈ iD d, jbF m x ≤ jbF (m + 1) d) ∧ (∀ x ∈ mD d, x.1.size + jbF m x.2 ≤ jbF (m + 1) d) := by
  constructor
  · intro x hx
    have := sumN_le (fun x => 100 + jbF m x) hx
    rw [jbF]; omega
  · intro x hx
    have := sumN_le (fun x : ByteArray × Dt => 100 + 6 * x.1.size + jbF m x.2) hx
    rw [jbF]; omega
theorem sum_one {l : List ByteArray} : sumN (fun x : ByteArray => x.size + 1) l ≤ sumN (fun x => x.size + 50) l := sumN_mono fun x _ => by omega
theorem str_le {l : List ByteArray} {n : Nat} (h : sumN (fun x : ByteArray => x.size + 50) l ≤ n) : ∀ x ∈ l, x.size + 50 ≤ n := fun x hx => by
  have := sumN_le (fun x : ByteArray => x.size + 50) hx
  omega
theorem list_one {b : Bool} {lv : Nat} {f : Dt → ByteArray} {d : Dt} (hm : mD d = []) : jparts b lv f d = (iD d).map (jpartI b lv f) := by unfold jparts; rw [hm]; simp
theorem mems_one {b : Bool} {lv : Nat} {f : Dt → ByteArray} {d : Dt} (hi : iD d = []) : jparts b lv f d = (mD d).map (jpartM b lv f) := by unfold jparts; rw [hi]; simp
theorem jt_str {b : Bool} {m lv : Nat} {d : Dt} (h : kD d = 4) : jtF b (m + 1) lv d = jqB (sD d) := by rw [jtF, if_pos h]
theorem jt_leaf {b : Bool} {m lv : Nat} {d : Dt} (h : kD d = 1 ∨ kD d = 2 ∨ kD d = 3) : jtF b (m + 1) lv d = textD (m + 1) d := by rw [jtF, if_neg (by omega), if_pos h]
theorem jt_wrap {b : Bool} {m lv : Nat} {d : Dt} (h : kD d = 5 ∨ kD d = 6) : jtF b (m + 1) lv d = wrapB b lv (kD d) (jparts b lv (jtF b m (lv + 1)) d) := by rw [jtF, if_neg (by omega), if_neg (by omega)]
theorem wrap_nil {b : Bool} {lv : Nat} {k : Int} {L : List ByteArray} (h : L.length = 0) : wrapB b lv k L = openB k ++ shutB k := by unfold wrapB; rw [if_pos h]
theorem wrap_cons {b : Bool} {lv : Nat} {k : Int} {L : List ByteArray} (h : L.length ≠ 0) : wrapB b lv k L = openB k ++ joinC L ++ lineB b lv ++ shutB k := by unfold wrapB; rw [if_neg h]
end Go.Proofs.YtmmbbndoimleaaaGreatDoor

/- text of package jsontext's layout, indent false. -/
namespace Go.Proofs.YtmmbbndoimleaaaGreatDoor
open Go.RowKit

set_option maxRecDepth 100000 in
set_option maxHeartbeats 4000000 in
theorem jtext_false : ∀ (m r lv : Nat) (d : Dt) (A : Option Addr) (c : Nat) (A' : Option Addr) (c' : Nat) (w : World), lv + r ≤ 16 → checkF r d = 0 → Parts w w.heap.size m d A c A' c' → jbF m d ≤ 1000000000 → Tab w →
    Calls Tryz.prog 31 #[.agg #[.bool false], datV d A c A' c', .int .i64 lv] w fun e w' => e = .returned (.string (jtF false m lv d)) ∧ Below w.heap.size w w' := by
  intro m
  induction m with
  | zero => intro r lv d A c A' c' w _ _ hp _ _; exact hp.elim
  | succ m ih =>
    intro r lv d A c A' c' w hlv hcz hp hbd ht
    have hpt := hp
    obtain ⟨r', rfl, hown, hkz⟩ := valid_kid hcz
    obtain ⟨⟨hk1, hk6⟩, _, _, hiN, hmN, _⟩ := valid_fields hown
    have htb := jparts_le false m lv (by omega) (jtF false m (lv + 1)) d (fun x hx => jtF_le false m r' (lv + 1) x (by omega) (hkz x hx))
    have hsz : (sD d).size ≤ 166700000 := by omega
    obtain ⟨hb1, hb2⟩ := jbF_kids (m := m) (d := d)
    obtain ⟨⟨h1, h2, h3, h4⟩, hI, hM⟩ := hp
    have hm := maxLen_le h2; have hm' := maxLen_le h4
    have hlv16 : lv ≤ 16 := by omega
    have hcast : ((lv + 1 : Nat) : Int) = (lv : Int) + 1 := by omega
    have hwrap : IntKind.i64.wrap ((lv : Int) + 1) = (lv : Int) + 1 := IntWalk.i64_in _ (by omega)
    have HTAB := hide fun W (hB : Below w.heap.size w W) => tab_below ht hB
    obtain ⟨i0, hi0, hz0, hz1, hz2⟩ := info_parts infoS
    obtain ⟨res, hres⟩ : ∃ r, r = jtF false (m + 1) lv d := ⟨_, rfl⟩
    rw [← hres]
    have HLN := hide fun W => line_run false (lv + 1) (by omega) W
    have HLN0 := hide fun W => line_run false lv (by omega) W
    rw [hcast] at HLN
    obtain ⟨wL, hwL⟩ : ∃ W, W = w.alloc (.cells #[.bool false] 42) := ⟨_, rfl⟩
    obtain ⟨gl, hgl⟩ : ∃ g, g = w.heap.size := ⟨_, rfl⟩
    have hRL : Row wL gl 42 [.bool false] := by rw [hwL, hgl]; exact Row.new w _ _
    have hBL0 : Below w.heap.size w wL := by rw [hwL]; exact (Below.refl _ _).alloc (Nat.le_refl _) _
    by_cases k4 : kD d = 4
    · have HZ := hide (show res = jqB (sD d) by rw [hres, jt_str k4])
      have HQ := hide fun W => quoted_run (sD d) hsz W
      unfold datV datCs
      rw [k4]
      obtain ⟨n, hn'⟩ : ∃ k, k = nD d := ⟨_, rfl⟩
      obtain ⟨s, hs⟩ : ∃ k, k = sD d := ⟨_, rfl⟩
      obtain ⟨x, hx⟩ : ∃ k, k = (iD d).length := ⟨_, rfl⟩
      obtain ⟨y, hy⟩ : ∃ k, k = (mD d).length := ⟨_, rfl⟩
      rw [← hn', ← hs, ← hx, ← hy]
      rw [← hs] at HQ HZ
      have HRL := hide hRL; have HB0 := hide hBL0
      clear hn' hs hx hy hI hM hb1 hb2 htb hbd ht hpt hiN hmN hkz hown hcz hres h1 h2 h3 h4 hRL hBL0 k4 hk1 hk6 ih HLN HLN0 HTAB hz0 hz1 hz2 hsz hm hm'
      go_enter Tryz.func31, Tryz.ntmps31
      go_upto_region 1 with fail
      rw [← hwL]
      obtain ⟨w1, g, e1, e2, hBL, c0, c1, c2, c3, c4, hROW⟩ := boxD wL 4 n s (.slice A x c) (.slice A' y c')
      rw [e1, show w.heap.size + 1 = g by rw [← e2, hwL]; simp, ← hgl]
      have q0 : w1.cell? ⟨gl, 0, none⟩ = some (.bool false) := (HRL.out.below hBL).cell 0
      have HBL := hide (HB0.out.trans (hBL.mono HB0.out.size))
      clear e1 e2 hwL hgl hBL hROW HRL HB0
      go_wp2_with fail
      refine (HQ.out _).mono ?_; rintro e w4 ⟨rfl, hB4⟩
      have HB4 := hide (HBL.out.trans (hB4.mono HBL.out.size))
      clear hB4
      go_wp2_with fail
      go_ret
      exact ⟨ret_str HZ.out.symm, HB4.out⟩
    by_cases k123 : kD d = 1 ∨ kD d = 2 ∨ kD d = 3
    · have HZ := hide (show res = textD (m + 1) d by rw [hres, jt_leaf k123])
      have hi0 : iD d = [] := by rcases hiN with h | h; omega; exact h
      have hm0 : mD d = [] := by rcases hmN with h | h; omega; exact h
      have htb2 : tbF (m + 1) d ≤ 1000000000 := by omega
      have HQ := hide fun W (hB : Below w.heap.size w W) => Text_run (m + 1) d A c A' c' W (hpt.turn (Same.of_below hB) hB.size) (leaf_fit hi0 hm0) htb2 (tab_below ht hB)
      unfold datV datCs at HQ
      unfold datV datCs
      obtain ⟨k, hk⟩ : ∃ k, k = kD d := ⟨_, rfl⟩
      obtain ⟨n, hn'⟩ : ∃ k, k = nD d := ⟨_, rfl⟩
      obtain ⟨s, hs⟩ : ∃ k, k = sD d := ⟨_, rfl⟩
      obtain ⟨x, hx⟩ : ∃ k, k = (iD d).length := ⟨_, rfl⟩
      obtain ⟨y, hy⟩ : ∃ k, k = (mD d).length := ⟨_, rfl⟩
      rw [← hk, ← hn', ← hs, ← hx, ← hy] at HQ
      rw [← hk, ← hn', ← hs, ← hx, ← hy]
      obtain ⟨T, hT⟩ : ∃ T, T = textD (m + 1) d := ⟨_, rfl⟩
      obtain ⟨z, hz⟩ : ∃ T, T = checkD d := ⟨_, rfl⟩
      rw [← hT, ← hz] at HQ
      rw [← hT] at HZ
      rw [← hk] at k123
      have HRL := hide hRL; have HB0 := hide hBL0
      clear hk hn' hs hx hy hT hz hI hM hb1 hb2 htb htb2 hbd ht hpt hiN hmN hi0 hm0 hkz hown hcz hres h1 h2 h3 h4 hRL hBL0 k4 hk1 hk6 ih HLN HLN0 HTAB hz0 hz1 hz2 hsz hm hm'
      rcases k123 with rfl | rfl | rfl
      all_goals
        go_enter Tryz.func31, Tryz.ntmps31
        go_upto_region 1 with fail
        rw [← hwL]
        obtain ⟨w1, g, e1, e2, hBL, c0, c1, c2, c3, c4, hROW⟩ := boxD wL _ n s (.slice A x c) (.slice A' y c')
        rw [e1, show w.heap.size + 1 = g by rw [← e2, hwL]; simp, ← hgl]
        have q0 : w1.cell? ⟨gl, 0, none⟩ = some (.bool false) := (HRL.out.below hBL).cell 0
        have HBL := hide (HB0.out.trans (hBL.mono HB0.out.size))
        clear e1 e2 hwL hgl hBL hROW HRL HB0
        go_wp2_with fail
        refine (HQ.out _ HBL.out).mono ?_; rintro e w4 ⟨rfl, hB4⟩
        have HB4 := hide (HBL.out.trans (hB4.mono HBL.out.size))
        clear hB4
        go_wp2_with fail
        go_ret
        exact ⟨ret_str HZ.out.symm, HB4.out⟩
    have HRL := hide hRL; have HB0 := hide hBL0
    have HWR := hide (hres.trans (jt_wrap (by omega)))
    by_cases k5 : kD d = 5
    · have hm0 : mD d = [] := by rcases hmN with h | h; omega; exact h
      have hi2 : (iD d).length ≤ 1000000000 := by
        have := sumN_len (fun x => 100 + jbF m x) (fun x => by omega) (iD d)
        rw [jbF] at hbd; omega
      have HI := hide fun i x (h : (iD d)[i]? = some x) => And.intro (hI i x h) (And.intro (show jbF m x ≤ 1000000000 by have := hb1 x (List.mem_of_getElem? h); omega) (And.intro (hkz x (is_kid (List.mem_of_getElem? h))) (jtF_le false m r' (lv + 1) x (by omega) (hkz x (is_kid (List.mem_of_getElem? h))))))
      obtain ⟨L, hL⟩ : ∃ L, L = jparts false lv (jtF false m (lv + 1)) d := ⟨_, rfl⟩
      rw [← hL] at HWR htb
      rw [list_one hm0] at hL
      have HSUM := hide (show sumN (fun x : ByteArray => x.size + 1) L ≤ 1000000000 by have := sum_one (l := L); omega)
      rw [k5] at HWR
      obtain ⟨xs, hxs⟩ : ∃ k, k = iD d := ⟨_, rfl⟩
      unfold datV datCs
      rw [k5, hm0]
      rw [← hxs] at HI h1 hi2 hL
      obtain ⟨n, hn'⟩ : ∃ k, k = nD d := ⟨_, rfl⟩
      obtain ⟨s, hs⟩ : ∃ k, k = sD d := ⟨_, rfl⟩
      obtain ⟨x, hx⟩ : ∃ k, k = xs.length := ⟨_, rfl⟩
      rw [← hn', ← hs, ← hxs, ← hx]
      rw [← hx] at h1 hi2
      rw [show ((([] : List (ByteArray × Dt)).length : Nat)) = 0 from rfl]
      have HLL := hide (show L.length = x by rw [hL, List.length_map, hx])
      have HLA := hide (show ∀ i X, xs[i]? = some X → L[i]? = some (jpartI false lv (jtF false m (lv + 1)) X) from fun i X h => by rw [hL, List.getElem?_map, h]; rfl)
      have HX := Lib.hid hx
      clear hn' hs hx hxs hL hI hM hb1 hb2 htb hbd ht hpt hiN hmN hm0 hkz hown hcz hres h2 h3 h4 hRL hBL0 k4 k123 k5 hk1 hk6 hsz hm'
      go_enter Tryz.func31, Tryz.ntmps31
      go_upto_region 1 with fail
      rw [← hwL]
      obtain ⟨w1, g, e1, e2, hBL, c0, c1, c2, c3, c4, hROW⟩ := boxD wL 5 n s (.slice A x c) (.slice A' 0 c')
      rw [e1, show w.heap.size + 1 = g by rw [← e2, hwL]; simp, ← hgl]
      have HC := hide fun W (h : Below w1.heap.size w1 W) => (And.intro ((HRL.out.below (hBL.trans (h.mono hBL.size))).cell 0) (row5 (hROW.below h)) : W.cell? ⟨gl, 0, none⟩ = some (.bool false) ∧ _)
      have q0 : w1.cell? ⟨gl, 0, none⟩ = some (.bool false) := (HRL.out.below hBL).cell 0
      have HBL := hide (HB0.out.trans (hBL.mono HB0.out.size))
      have hgl1 : gl < w1.heap.size := (HRL.out.below hBL).lt
      have hg1 : g < w1.heap.size := hROW.lt
      clear e1 e2 hwL hgl hBL hROW HRL HB0
      go_wp2_with fail
      go_loopw [9, 14, 41] (fun ov _ iv wr => ∃ i : Nat, iv = .int .i64 i ∧ i ≤ x ∧ Hid (Below w1.heap.size w1 wr) ∧ Hid (wr.ownsRow w1.heap.size 9 1 ov i (strsV (L.take i)))) (fun _ _ iv _ => x - (intOf iv).toNat)
      case atStart => exact ⟨0, rfl, Nat.zero_le _, hide (Below.refl _ _), hide (World.ownsRow_nil _ _ _ _)⟩
      case round =>
        obtain ⟨i, rfl, hi, hB, hO⟩ := hrel
        have hwB := HBL.out.trans (hB.out.mono HBL.out.size)
        by_cases hlt : i < x
        · have hlt' : i < xs.length := by rw [← HX.out]; exact hlt
          obtain ⟨⟨ad, rfl, hb, a, q, a', q', hfive, hpts⟩, htx, hcx, htl⟩ := HI.out i _ (List.getElem?_eq_getElem hlt')
          obtain ⟨X, hX⟩ : ∃ X, X = xs[i] := ⟨_, rfl⟩
          rw [← hX] at hfive hpts htx hcx htl
          have hbb : (ad.add (i * 5)).block < w.heap.size := by rw [block_of_add]; exact hb
          obtain ⟨s0, s1, s2, s3, s4⟩ := hfive.same hbb (Same.of_below hwB)
          have HCK := hide fun w' (hB' : Below w.heap.size w w') => ih r' (lv + 1) X a q a' q' w' (by omega) hcx (hpts.turn (Same.of_below hB') hB'.size) htx (HTAB.out _ hB')
          have HXX := hide (show strsV (L.take (i + 1)) = strsV (L.take i) ++ [.string (jpartI false lv (jtF false m (lv + 1)) X)] by
            rw [List.take_add_one, HLA.out i _ (List.getElem?_eq_getElem hlt'), strsV_append, hX]; rfl)
          unfold jpartI at HXX
          unfold datV datCs at HCK
          obtain ⟨T, hT⟩ : ∃ T, T = jtF false m (lv + 1) X := ⟨_, rfl⟩
          obtain ⟨LB, hLB⟩ : ∃ T, T = lineB false (lv + 1) := ⟨_, rfl⟩
          have hls : LB.size ≤ 100 := by rw [hLB]; have := lineB_size false (lv + 1); omega
          rw [← hT] at HCK HXX htl
          rw [← hLB] at HXX
          have HLN1 := hide fun W => (HLN.out W)
          rw [← hLB] at HLN1
          rw [hcast] at HCK
          have hov : ¬ 9223372036854775807 < LB.size + T.size := by omega
          obtain ⟨c0, c1, c2, c3, c4, c5⟩ := HC.out _ hB.out
          clear hfive hpts hX hlt' hb hbb hT hLB htx hcx htl
          go_upto_region 19 with fail
          obtain ⟨wa, hwa⟩ : ∃ wa, wa = wr.alloc (Obj.cells #[Value.int IntKind.i64 (kD X), Value.int IntKind.i64 (nD X), Value.string (sD X), Value.slice a (iD X).length q, Value.slice a' (mD X).length q'] 25) := ⟨_, rfl⟩
          obtain ⟨b, hbb⟩ : ∃ b, b = wr.heap.size := ⟨_, rfl⟩
          have hR : Row wa b 25 [Value.int IntKind.i64 (kD X), Value.int IntKind.i64 (nD X), Value.string (sD X), Value.slice a (iD X).length q, Value.slice a' (mD X).length q'] := by rw [hwa, hbb]; exact Row.new wr _ _
          have HBA := hide (show Below w1.heap.size w1 wa by rw [hwa]; exact below_al hB.out _)
          have HOA := hide (show wa.ownsRow w1.heap.size 9 1 u9 i (strsV (L.take i)) by rw [hwa]; exact hO.out.alloc _)
          have hS0 : w1.heap.size ≤ wa.heap.size := HBA.out.size
          rw [← hwa, ← hbb]
          clear hwa hbb
          obtain ⟨wd, hwd⟩ : ∃ W, W = wa.drew := ⟨_, rfl⟩
          have hBD : Below wa.heap.size wa wd := by rw [hwd]; exact (Below.refl _ _).drew
          have hsd : wd.heap.size = wa.heap.size := by rw [hwd]; rfl
          have hRD := hR.below hBD
          have HBD := hide (HBA.out.trans (hBD.mono hS0))
          have HOD := hide (own_below HOA.out hBD)
          have hbsd := HBD.out.size
          have HS := hide fun W (h : Below wd.heap.size wd W) => (And.intro (HC.out W (HBD.out.trans (h.mono hbsd))).1 (row5 (hRD.below h)) : W.cell? ⟨gl, 0, none⟩ = some (.bool false) ∧ _)
          have HWB := hide fun W (h : Below wd.heap.size wd W) => HBL.out.trans ((HBD.out.trans (h.mono hbsd)).mono HBL.out.size)
          clear hR hRD hBD HBA HOA hS0 hsd s0 s1 s2 s3 s4 hB hO hwB c0 c1 c2 c3 c4 c5
          refine region_two 12 (fun W => W.cell? ⟨gl, 0, none⟩ = some (.bool false) ∧ W.cell? ⟨b, 0, none⟩ = some (.int .i64 (kD X)) ∧ W.cell? ⟨b, 1, none⟩ = some (.int .i64 (nD X)) ∧ W.cell? ⟨b, 2, none⟩ = some (.string (sD X)) ∧
              W.cell? ⟨b, 3, none⟩ = some (.slice a (iD X).length q) ∧ W.cell? ⟨b, 4, none⟩ = some (.slice a' (mD X).length q')) (by kernel_rfl) (by kernel_rfl) (by rw [← hwd]; exact HS.out _ (Below.refl _ _)) (fun hH => ?_)
          rw [← hwd] at hH ⊢
          clear hwd
          simp only [List.take_succ_cons, List.take_zero]
          refine takeH (i := 0) (v := ?_) rfl (by kernel_rfl) (by kernel_rfl) (by kernel_rfl) (fun _ _ _ h => h) (Or.inl ⟨by rfl, ?_⟩) hH ?_
          rotate_left
          · (intro w hSw; (try dsimp only at hSw); go_simp; try with_reducible rfl)
          simp only [Act.put, List.setIfInBounds_toArray, List.set_cons_zero, List.set_cons_succ]
          refine takeH (i := 1) (v := ?_) rfl (by kernel_rfl) (by kernel_rfl) (by kernel_rfl) (fun _ _ _ h => h) (Or.inl ⟨by rfl, ?_⟩) hH ?_
          rotate_left
          · (intro w hSw; (try dsimp only at hSw); go_simp; try with_reducible rfl)
          simp only [Act.put, List.setIfInBounds_toArray, List.set_cons_zero, List.set_cons_succ]
          refine takeH (i := 2) (v := ?_) rfl (by kernel_rfl) (by kernel_rfl) (by kernel_rfl) (fun _ _ _ h => h) (Or.inl ⟨by rfl, ?_⟩) hH ?_
          rotate_left
          · (intro w hSw; (try dsimp only at hSw); go_simp; try with_reducible rfl)
          simp only [Act.put, List.setIfInBounds_toArray, List.set_cons_zero, List.set_cons_succ]
          refine takeH (i := 3) (v := ?_) rfl (by kernel_rfl) (by kernel_rfl) (by kernel_rfl) (fun _ _ _ h => h) (Or.inl ⟨by rfl, ?_⟩) hH ?_
          rotate_left
          · (intro w hSw; (try dsimp only at hSw); go_simp; try with_reducible rfl)
          simp only [Act.put, List.setIfInBounds_toArray, List.set_cons_zero, List.set_cons_succ]
          refine takeH (i := 5) (v := ?_) rfl (by kernel_rfl) (by kernel_rfl) (by kernel_rfl) (fun _ _ _ h => h) (Or.inl ⟨by rfl, ?_⟩) hH ?_
          rotate_left
          · (intro w hSw; (try dsimp only at hSw); go_simp; try with_reducible rfl)
          simp only [Act.put, List.setIfInBounds_toArray, List.set_cons_zero, List.set_cons_succ]
          refine takeH (i := 6) (v := ?_) rfl (by kernel_rfl) (by kernel_rfl) (by kernel_rfl) (fun _ _ _ h => h) (Or.inl ⟨by rfl, ?_⟩) hH ?_
          rotate_left
          · (intro w hSw; (try dsimp only at hSw); go_simp; try with_reducible rfl)
          simp only [Act.put, List.setIfInBounds_toArray, List.set_cons_zero, List.set_cons_succ]
          refine takeH (i := 7) (v := ?_) rfl (by kernel_rfl) (by kernel_rfl) (by kernel_rfl) (fun _ _ _ h => h) (Or.inl ⟨by rfl, ?_⟩) hH ?_
          rotate_left
          · (intro w hSw; (try dsimp only at hSw); go_simp; try with_reducible rfl)
          simp only [Act.put, List.setIfInBounds_toArray, List.set_cons_zero, List.set_cons_succ]
          refine takeH (i := 8) (v := ?_) rfl (by kernel_rfl) (by kernel_rfl) (by kernel_rfl) (fun _ _ _ h => h) (Or.inl ⟨by rfl, ?_⟩) hH ?_
          rotate_left
          · (intro w hSw; (try dsimp only at hSw); go_simp; try with_reducible rfl)
          simp only [Act.put, List.setIfInBounds_toArray, List.set_cons_zero, List.set_cons_succ]
          refine oneH (i := 4) rfl (by kernel_rfl) (fun K hK => ?_)
          go_simp
          go_at_call 60
          refine (HLN1.out _).mono ?_; rintro e w3 ⟨rfl, hB3⟩
          refine hK.out _ _ (HS.out _ hB3) (fun hH => ?_)
          clear hK K
          refine oneH (i := 9) rfl (by kernel_rfl) (fun K hK => ?_)
          go_simp
          go_at_call 31
          refine (HCK.out _ (HWB.out _ hB3)).mono ?_; rintro e w4 ⟨rfl, hB4⟩
          have hB5 := hB3.trans (hB4.mono hB3.size)
          refine hK.out _ _ (HS.out _ hB5) (fun hH => ?_)
          clear hK K
          refine takeH (i := 10) (v := ?_) rfl (by kernel_rfl) (by kernel_rfl) (by kernel_rfl) (fun _ _ _ h => h) (Or.inl ⟨by rfl, ?_⟩) hH ?_
          rotate_left
          · (intro w hSw; (try dsimp only at hSw); go_simp; try with_reducible rfl)
          simp only [Act.put, List.setIfInBounds_toArray, List.set_cons_zero, List.set_cons_succ]
          refine oneH (i := 11) rfl (by kernel_rfl) (fun K hK => ?_)
          go_simp
          refine hK.out _ _ (HS.out _ (below_al hB5 _)) (fun hH => ?_)
          clear hK K
          refine wpAnyH_done (by kernel_rfl) ?_ _
          unfold TailPost
          simp only [List.drop_succ_cons, List.drop_zero]
          have HB4 := hide hB5
          have hs4 := hB5.size
          have HO4 := hide (own_below HOD.out hB5)
          clear hH hB3 hB4 hB5 HCK HLN1 HS HWB
          go_wp2_with (at_builtin; refine wpList_append_all _ rfl (.tmp 45) (.tmp 56) _ rfl w1.heap.size 9 i0 _ 1 16 Tryz.underlying70 hi0 hz0 hz1 hz2 rfl (by omega) u9 i (strsV (L.take i)) rfl (HO4.out.alloc _) (some ⟨w4.heap.size, 0, none⟩) 1 1 [.string (LB ++ T)] rfl (by intro h; cases h) rfl (by intro ad' h; injection h with h; subst h; exact World.news_of_block (heap_alloc_new _ _)) one_str (by unfold maxLen; omega) (by omega) (by simp; omega) ?_)
          intro v' w' o1 o2
          have HB5 := hide (Below.grown (below_al (HBD.out.trans (HB4.out.mono hbsd)) (.cells #[.string (LB ++ T)] 9)) o2.out (by simp; omega) (fun k e => (HO4.out.lt k e).1))
          have HO5 := hide (show w'.ownsRow w1.heap.size 9 1 v' (i + 1) (strsV (L.take (i + 1))) by rw [HXX.out]; exact o1.out)
          clear o1 o2 HO4 HOD HB4 HBD HXX
          go_wp2_with fail
          go_roundw
          case rel => exact ⟨i + 1, by go_num, by omega, HB5, HO5⟩
          case measure => simp [intOf]; omega
        · obtain rfl : x = i := by omega
          obtain ⟨c0, c1, c2, c3, c4, c5⟩ := HC.out _ hB.out
          have HO1 := hide (show wr.ownsRow w1.heap.size 9 1 u9 x (strsV L) by
            have e : L.take x = L := by rw [← HLL.out, List.take_length]
            have := hO.out
            rw [e] at this; exact this)
          have HJ := hide fun W (h : Below wr.heap.size wr W) => joinC_run u9 L w1.heap.size W (by rw [HLL.out]; exact own_below HO1.out h) HSUM.out
          have HB1 := hide hB.out
          obtain ⟨A9, c9, rfl⟩ := own_form HO1.out
          clear hO hB hlt hi HI HX HLA HO1 ih
          go_wp2_with fail
          go_loopw [9, 16, 62] (fun ov _ iv W => ov = .slice A9 x c9 ∧ iv = .int .i64 0 ∧ W = wr) (fun _ _ _ _ => 0)
          case atStart => exact ⟨rfl, rfl, rfl⟩
          case round =>
            obtain ⟨rfl, rfl, e3⟩ := hrel
            subst e3
            by_cases hx0 : x = 0
            · subst hx0
              have HZ := hide (show res = ⟨#[91]⟩ ++ ⟨#[93]⟩ from HWR.out.trans (wrap_nil HLL.out))
              go_wp2_with fail
              go_ret
              exact ⟨ret_str HZ.out.symm, hwB⟩
            · have HZ := hide (show res = ⟨#[91]⟩ ++ joinC L ++ lineB false lv ++ ⟨#[93]⟩ from HWR.out.trans (wrap_cons (by rw [HLL.out]; exact hx0)))
              have hJs := Nat.le_trans (joinC_size L) HSUM.out
              have hLs := lineB_size false lv
              have hg1 : ((x : Int) == 0) = false := by simp; omega
              have HLM := hide fun W => HLN0.out W
              obtain ⟨J, hJ⟩ : ∃ J, J = joinC L := ⟨_, rfl⟩
              obtain ⟨LB, hLB⟩ : ∃ J, J = lineB false lv := ⟨_, rfl⟩
              rw [← hJ] at HJ HZ hJs
              rw [← hLB] at HLM HZ hLs
              have HCW := hide fun W (h : Below wr.heap.size wr W) => (HC.out W (HB1.out.trans (h.mono HB1.out.size))).1
              have ho1 : ¬ 9223372036854775807 < 1 + J.size := by omega
              have ho2 : ¬ 9223372036854775807 < 1 + J.size + LB.size := by omega
              have ho3 : ¬ 9223372036854775807 < 1 + J.size + LB.size + 1 := by omega
              clear hJ hLB HSUM HWR hx0
              go_upto_region 28 with fail
              obtain ⟨wd, hwd⟩ : ∃ W, W = wr.drew := ⟨_, rfl⟩
              have hBD : Below wr.heap.size wr wd := by rw [hwd]; exact (Below.refl _ _).drew
              have HJD := hide fun W (h : Below wd.heap.size wd W) => HJ.out W (hBD.trans (h.mono hBD.size))
              have HCD := hide fun W (h : Below wd.heap.size wd W) => HCW.out W (hBD.trans (h.mono hBD.size))
              have HBD := hide (hwB.trans (hBD.mono hwB.size))
              clear hBD HJ HCW hwB HB1 c0 c1 c2 c3 c4 c5
              refine region_two 9 (fun W => W.cell? ⟨gl, 0, none⟩ = some (.bool false)) (by kernel_rfl) (by kernel_rfl) (by rw [← hwd]; exact HCD.out _ (Below.refl _ _)) (fun hH => ?_)
              rw [← hwd] at hH ⊢
              clear hwd
              simp only [List.take_succ_cons, List.take_zero]
              refine takeH (i := 0) (v := ?_) rfl (by kernel_rfl) (by kernel_rfl) (by kernel_rfl) (fun _ _ _ h => h) (Or.inl ⟨by rfl, ?_⟩) hH ?_
              rotate_left
              · (intro w hSw; (try dsimp only at hSw); go_simp; try with_reducible rfl)
              simp only [Act.put, List.setIfInBounds_toArray, List.set_cons_zero, List.set_cons_succ]
              refine takeH (i := 1) (v := ?_) rfl (by kernel_rfl) (by kernel_rfl) (by kernel_rfl) (fun _ _ _ h => h) (Or.inl ⟨by rfl, ?_⟩) hH ?_
              rotate_left
              · (intro w hSw; (try dsimp only at hSw); go_simp; try with_reducible rfl)
              simp only [Act.put, List.setIfInBounds_toArray, List.set_cons_zero, List.set_cons_succ]
              refine takeH (i := 4) (v := ?_) rfl (by kernel_rfl) (by kernel_rfl) (by kernel_rfl) (fun _ _ _ h => h) (Or.inl ⟨by rfl, ?_⟩) hH ?_
              rotate_left
              · (intro w hSw; (try dsimp only at hSw); go_simp; try with_reducible rfl)
              simp only [Act.put, List.setIfInBounds_toArray, List.set_cons_zero, List.set_cons_succ]
              refine takeH (i := 5) (v := ?_) rfl (by kernel_rfl) (by kernel_rfl) (by kernel_rfl) (fun _ _ _ h => h) (Or.inl ⟨by rfl, ?_⟩) hH ?_
              rotate_left
              · (intro w hSw; (try dsimp only at hSw); go_simp; try with_reducible rfl)
              simp only [Act.put, List.setIfInBounds_toArray, List.set_cons_zero, List.set_cons_succ]
              refine takeH (i := 8) (v := ?_) rfl (by kernel_rfl) (by kernel_rfl) (by kernel_rfl) (fun _ _ _ h => h) (Or.inl ⟨by rfl, ?_⟩) hH ?_
              rotate_left
              · (intro w hSw; (try dsimp only at hSw); go_simp; try with_reducible rfl)
              simp only [Act.put, List.setIfInBounds_toArray, List.set_cons_zero, List.set_cons_succ]
              refine oneH (i := 2) rfl (by kernel_rfl) (fun K hK => ?_)
              go_simp
              go_at_call 61
              refine (HJD.out _ (Below.refl _ _)).mono ?_; rintro e w3 ⟨rfl, hB3⟩
              refine hK.out _ _ (HCD.out _ hB3) (fun hH => ?_)
              clear hK K
              refine takeH (i := 3) (v := ?_) rfl (by kernel_rfl) (by kernel_rfl) (by kernel_rfl) (fun _ _ _ h => h) (Or.inl ⟨by rfl, ?_⟩) hH ?_
              rotate_left
              · (intro w hSw; (try dsimp only at hSw); go_simp; try with_reducible rfl)
              simp only [Act.put, List.setIfInBounds_toArray, List.set_cons_zero, List.set_cons_succ]
              refine oneH (i := 6) rfl (by kernel_rfl) (fun K hK => ?_)
              go_simp
              go_at_call 60
              refine (HLM.out _).mono ?_; rintro e w4 ⟨rfl, hB4⟩
              have hB5 := hB3.trans (hB4.mono hB3.size)
              refine hK.out _ _ (HCD.out _ hB5) (fun hH => ?_)
              clear hK K
              refine takeH (i := 7) (v := ?_) rfl (by kernel_rfl) (by kernel_rfl) (by kernel_rfl) (fun _ _ _ h => h) (Or.inl ⟨by rfl, ?_⟩) hH ?_
              rotate_left
              · (intro w hSw; (try dsimp only at hSw); go_simp; try with_reducible rfl)
              simp only [Act.put, List.setIfInBounds_toArray, List.set_cons_zero, List.set_cons_succ]
              refine wpAnyH_done (by kernel_rfl) ?_ _
              unfold TailPost
              simp only [List.drop_succ_cons, List.drop_zero]
              have HB6 := hide (HBD.out.trans (hB5.mono HBD.out.size))
              clear hH hB3 hB4 hB5 HJD HLM HCD HBD
              go_wp2_with fail
              go_ret
              exact ⟨ret_str HZ.out.symm, HB6.out⟩
    · have k6 : kD d = 6 := by omega
      have hm0 : iD d = [] := by rcases hiN with h | h; omega; exact h
      have hi2 : (mD d).length ≤ 1000000000 := by
        have := sumN_len (fun x : ByteArray × Dt => 100 + 6 * x.1.size + jbF m x.2) (fun x => by omega) (mD d)
        rw [jbF] at hbd; omega
      have HI := hide fun i x (h : (mD d)[i]? = some x) => And.intro (hM i x h) (And.intro (show x.1.size + jbF m x.2 ≤ 1000000000 by have := hb2 x (List.mem_of_getElem? h); omega) (And.intro (show 6 * x.1.size ≤ 1000000000 by have := sumN_le (fun x : ByteArray × Dt => 100 + 6 * x.1.size + jbF m x.2) (List.mem_of_getElem? h); rw [jbF] at hbd; omega) (And.intro (hkz x.2 (ms_kid (List.mem_of_getElem? h))) (jtF_le false m r' (lv + 1) x.2 (by omega) (hkz x.2 (ms_kid (List.mem_of_getElem? h)))))))
      obtain ⟨L, hL⟩ : ∃ L, L = jparts false lv (jtF false m (lv + 1)) d := ⟨_, rfl⟩
      rw [← hL] at HWR htb
      rw [mems_one hm0] at hL
      have HSUM := hide (show sumN (fun x : ByteArray => x.size + 1) L ≤ 1000000000 by have := sum_one (l := L); omega)
      rw [k6] at HWR
      obtain ⟨xs, hxs⟩ : ∃ k, k = mD d := ⟨_, rfl⟩
      unfold datV datCs
      rw [k6, hm0]
      rw [← hxs] at HI h3 hi2 hL
      obtain ⟨n, hn'⟩ : ∃ k, k = nD d := ⟨_, rfl⟩
      obtain ⟨s, hs⟩ : ∃ k, k = sD d := ⟨_, rfl⟩
      obtain ⟨x, hx⟩ : ∃ k, k = xs.length := ⟨_, rfl⟩
      rw [← hn', ← hs, ← hxs, ← hx]
      rw [← hx] at h3 hi2
      rw [show ((([] : List Dt).length : Nat)) = 0 from rfl]
      have HLL := hide (show L.length = x by rw [hL, List.length_map, hx])
      have HLA := hide (show ∀ i X, xs[i]? = some X → L[i]? = some (jpartM false lv (jtF false m (lv + 1)) X) from fun i X h => by rw [hL, List.getElem?_map, h]; rfl)
      have HX := Lib.hid hx
      clear hn' hs hx hxs hL hI hM hb1 hb2 htb hbd ht hpt hiN hmN hm0 hkz hown hcz hres h1 h2 h4 hRL hBL0 k4 k123 k5 k6 hk1 hk6 hsz hm
      go_enter Tryz.func31, Tryz.ntmps31
      go_upto_region 1 with fail
      rw [← hwL]
      obtain ⟨w1, g, e1, e2, hBL, c0, c1, c2, c3, c4, hROW⟩ := boxD wL 6 n s (.slice A 0 c) (.slice A' x c')
      rw [e1, show w.heap.size + 1 = g by rw [← e2, hwL]; simp, ← hgl]
      have HC := hide fun W (h : Below w1.heap.size w1 W) => (And.intro ((HRL.out.below (hBL.trans (h.mono hBL.size))).cell 0) (row5 (hROW.below h)) : W.cell? ⟨gl, 0, none⟩ = some (.bool false) ∧ _)
      have q0 : w1.cell? ⟨gl, 0, none⟩ = some (.bool false) := (HRL.out.below hBL).cell 0
      have HBL := hide (HB0.out.trans (hBL.mono HB0.out.size))
      have hgl1 : gl < w1.heap.size := (HRL.out.below hBL).lt
      have hg1 : g < w1.heap.size := hROW.lt
      clear e1 e2 hwL hgl hBL hROW HRL HB0
      go_wp2_with fail
      go_loopw [9, 14, 41] (fun ov _ iv W => ov = .slice none 0 0 ∧ iv = .int .i64 0 ∧ W = w1) (fun _ _ _ _ => 0)
      case atStart => exact ⟨rfl, rfl, rfl⟩
      case round =>
        obtain ⟨rfl, rfl, e3⟩ := hrel
        have e3 := e3.symm
        subst e3
        go_wp2_with fail
        go_loopw [9, 16, 62] (fun ov _ iv W => ∃ i : Nat, iv = .int .i64 i ∧ i ≤ x ∧ Hid (Below w1.heap.size w1 W) ∧ Hid (W.ownsRow w1.heap.size 9 1 ov i (strsV (L.take i)))) (fun _ _ iv _ => x - (intOf iv).toNat)
        case atStart => exact ⟨0, rfl, Nat.zero_le _, hide (Below.refl _ _), hide (World.ownsRow_nil _ _ _ _)⟩
        case round =>
          obtain ⟨i, rfl, hi, hB, hO⟩ := hrel
          have hwB := HBL.out.trans (hB.out.mono HBL.out.size)
          by_cases hlt : i < x
          · have hlt' : i < xs.length := by rw [← HX.out]; exact hlt
            obtain ⟨⟨ad, rfl, hb, hlab, a, q, a', q', hfive, hpts⟩, htx, hls, hcx, htl⟩ := HI.out i _ (List.getElem?_eq_getElem hlt')
            obtain ⟨X, hX⟩ : ∃ X, X = xs[i] := ⟨_, rfl⟩
            rw [← hX] at hlab hfive hpts htx hls hcx htl
            have hbb : (ad.add (i * 6)).block < w.heap.size := by rw [block_of_add]; exact hb
            obtain ⟨s0, s1, s2, s3, s4, s5⟩ := six_of ((hwB.cell (p := ad.add (i * 6)) hbb).trans hlab) (hfive.same (p := ⟨_, _, none⟩) hbb (Same.of_below hwB))
            have HCK := hide fun w' (hB' : Below w.heap.size w w') => ih r' (lv + 1) X.2 a q a' q' w' (by omega) hcx (hpts.turn (Same.of_below hB') hB'.size) (by omega) (HTAB.out _ hB')
            have HXX := hide (show strsV (L.take (i + 1)) = strsV (L.take i) ++ [.string (jpartM false lv (jtF false m (lv + 1)) X)] by
              rw [List.take_add_one, HLA.out i _ (List.getElem?_eq_getElem hlt'), strsV_append, hX]; rfl)
            unfold jpartM at HXX
            unfold datV datCs at HCK
            obtain ⟨T, hT⟩ : ∃ T, T = jtF false m (lv + 1) X.2 := ⟨_, rfl⟩
            obtain ⟨LB, hLB⟩ : ∃ T, T = lineB false (lv + 1) := ⟨_, rfl⟩
            have hls : LB.size ≤ 100 := by rw [hLB]; have := lineB_size false (lv + 1); omega
            rw [← hT] at HCK HXX htl
            rw [← hLB] at HXX
            have HQT := hide fun W => quoted_run X.1 (by omega) W
            have hqs := jqB_size X.1
            obtain ⟨QT, hQT⟩ : ∃ T, T = jqB X.1 := ⟨_, rfl⟩
            rw [← hQT] at HQT HXX hqs
            have hcol : colB false = ⟨#[58]⟩ := rfl
            rw [hcol] at HXX
            have HLN1 := hide fun W => (HLN.out W)
            rw [← hLB] at HLN1
            rw [hcast] at HCK
            have hq1 : QT.size ≤ 1100000000 := by omega
            have hov1 : ¬ 9223372036854775807 < LB.size + QT.size := by omega
            have hov2 : ¬ 9223372036854775807 < LB.size + QT.size + 1 := by omega
            have hov3 : ¬ 9223372036854775807 < LB.size + QT.size + 1 + T.size := by omega
            obtain ⟨c0, c1, c2, c3, c4, c5⟩ := HC.out _ hB.out
            clear hlab hfive hpts hX hlt' hb hbb hT hLB hQT hcol htx hcx htl hls hqs
            go_upto_region 24 with fail
            obtain ⟨wa, hwa⟩ : ∃ wa, wa = wr.alloc (Obj.cells #[Value.string X.1, Value.int IntKind.i64 (kD X.2), Value.int IntKind.i64 (nD X.2), Value.string (sD X.2), Value.slice a (iD X.2).length q, Value.slice a' (mD X.2).length q'] 57) := ⟨_, rfl⟩
            obtain ⟨b, hbb⟩ : ∃ b, b = wr.heap.size := ⟨_, rfl⟩
            have hR : Row wa b 57 [Value.string X.1, Value.int IntKind.i64 (kD X.2), Value.int IntKind.i64 (nD X.2), Value.string (sD X.2), Value.slice a (iD X.2).length q, Value.slice a' (mD X.2).length q'] := by rw [hwa, hbb]; exact Row.new wr _ _
            have HBA := hide (show Below w1.heap.size w1 wa by rw [hwa]; exact below_al hB.out _)
            have HOA := hide (show wa.ownsRow w1.heap.size 9 1 u9 i (strsV (L.take i)) by rw [hwa]; exact hO.out.alloc _)
            have hS0 : w1.heap.size ≤ wa.heap.size := HBA.out.size
            rw [← hwa, ← hbb]
            clear hwa hbb
            obtain ⟨wd, hwd⟩ : ∃ W, W = wa.drew := ⟨_, rfl⟩
            have hBD : Below wa.heap.size wa wd := by rw [hwd]; exact (Below.refl _ _).drew
            have hsd : wd.heap.size = wa.heap.size := by rw [hwd]; rfl
            have hRD := hR.below hBD
            have HBD := hide (HBA.out.trans (hBD.mono hS0))
            have HOD := hide (own_below HOA.out hBD)
            have hbsd := HBD.out.size
            have HS := hide fun W (h : Below wd.heap.size wd W) => (And.intro (HC.out W (HBD.out.trans (h.mono hbsd))).1 (row6 (hRD.below h)) : W.cell? ⟨gl, 0, none⟩ = some (.bool false) ∧ _)
            have HWB := hide fun W (h : Below wd.heap.size wd W) => HBL.out.trans ((HBD.out.trans (h.mono hbsd)).mono HBL.out.size)
            clear hR hRD hBD HBA HOA hS0 hsd s0 s1 s2 s3 s4 hB hO hwB c0 c1 c2 c3 c4 c5
            refine region_two 19 (fun W => W.cell? ⟨gl, 0, none⟩ = some (.bool false) ∧ W.cell? ⟨b, 0, none⟩ = some (.string X.1) ∧ W.cell? ⟨b, 1, none⟩ = some (.int .i64 (kD X.2)) ∧ W.cell? ⟨b, 2, none⟩ = some (.int .i64 (nD X.2)) ∧ W.cell? ⟨b, 3, none⟩ = some (.string (sD X.2)) ∧
                W.cell? ⟨b, 4, none⟩ = some (.slice a (iD X.2).length q) ∧ W.cell? ⟨b, 5, none⟩ = some (.slice a' (mD X.2).length q')) (by kernel_rfl) (by kernel_rfl) (by rw [← hwd]; exact HS.out _ (Below.refl _ _)) (fun hH => ?_)
            rw [← hwd] at hH ⊢
            clear hwd
            simp only [List.take_succ_cons, List.take_zero]
            refine takeH (i := 0) (v := ?_) rfl (by kernel_rfl) (by kernel_rfl) (by kernel_rfl) (fun _ _ _ h => h) (Or.inl ⟨by rfl, ?_⟩) hH ?_
            rotate_left
            · (intro w hSw; (try dsimp only at hSw); go_simp; try with_reducible rfl)
            simp only [Act.put, List.setIfInBounds_toArray, List.set_cons_zero, List.set_cons_succ]
            refine takeH (i := 1) (v := ?_) rfl (by kernel_rfl) (by kernel_rfl) (by kernel_rfl) (fun _ _ _ h => h) (Or.inl ⟨by rfl, ?_⟩) hH ?_
            rotate_left
            · (intro w hSw; (try dsimp only at hSw); go_simp; try with_reducible rfl)
            simp only [Act.put, List.setIfInBounds_toArray, List.set_cons_zero, List.set_cons_succ]
            refine takeH (i := 2) (v := ?_) rfl (by kernel_rfl) (by kernel_rfl) (by kernel_rfl) (fun _ _ _ h => h) (Or.inl ⟨by rfl, ?_⟩) hH ?_
            rotate_left
            · (intro w hSw; (try dsimp only at hSw); go_simp; try with_reducible rfl)
            simp only [Act.put, List.setIfInBounds_toArray, List.set_cons_zero, List.set_cons_succ]
            refine takeH (i := 3) (v := ?_) rfl (by kernel_rfl) (by kernel_rfl) (by kernel_rfl) (fun _ _ _ h => h) (Or.inl ⟨by rfl, ?_⟩) hH ?_
            rotate_left
            · (intro w hSw; (try dsimp only at hSw); go_simp; try with_reducible rfl)
            simp only [Act.put, List.setIfInBounds_toArray, List.set_cons_zero, List.set_cons_succ]
            refine takeH (i := 5) (v := ?_) rfl (by kernel_rfl) (by kernel_rfl) (by kernel_rfl) (fun _ _ _ h => h) (Or.inl ⟨by rfl, ?_⟩) hH ?_
            rotate_left
            · (intro w hSw; (try dsimp only at hSw); go_simp; try with_reducible rfl)
            simp only [Act.put, List.setIfInBounds_toArray, List.set_cons_zero, List.set_cons_succ]
            refine takeH (i := 6) (v := ?_) rfl (by kernel_rfl) (by kernel_rfl) (by kernel_rfl) (fun _ _ _ h => h) (Or.inl ⟨by rfl, ?_⟩) hH ?_
            rotate_left
            · (intro w hSw; (try dsimp only at hSw); go_simp; try with_reducible rfl)
            simp only [Act.put, List.setIfInBounds_toArray, List.set_cons_zero, List.set_cons_succ]
            refine takeH (i := 9) (v := ?_) rfl (by kernel_rfl) (by kernel_rfl) (by kernel_rfl) (fun _ _ _ h => h) (Or.inl ⟨by rfl, ?_⟩) hH ?_
            rotate_left
            · (intro w hSw; (try dsimp only at hSw); go_simp; try with_reducible rfl)
            simp only [Act.put, List.setIfInBounds_toArray, List.set_cons_zero, List.set_cons_succ]
            refine takeH (i := 11) (v := ?_) rfl (by kernel_rfl) (by kernel_rfl) (by kernel_rfl) (fun _ _ _ h => h) (Or.inl ⟨by rfl, ?_⟩) hH ?_
            rotate_left
            · (intro w hSw; (try dsimp only at hSw); go_simp; try with_reducible rfl)
            simp only [Act.put, List.setIfInBounds_toArray, List.set_cons_zero, List.set_cons_succ]
            refine takeH (i := 12) (v := ?_) rfl (by kernel_rfl) (by kernel_rfl) (by kernel_rfl) (fun _ _ _ h => h) (Or.inl ⟨by rfl, ?_⟩) hH ?_
            rotate_left
            · (intro w hSw; (try dsimp only at hSw); go_simp; try with_reducible rfl)
            simp only [Act.put, List.setIfInBounds_toArray, List.set_cons_zero, List.set_cons_succ]
            refine takeH (i := 13) (v := ?_) rfl (by kernel_rfl) (by kernel_rfl) (by kernel_rfl) (fun _ _ _ h => h) (Or.inl ⟨by rfl, ?_⟩) hH ?_
            rotate_left
            · (intro w hSw; (try dsimp only at hSw); go_simp; try with_reducible rfl)
            simp only [Act.put, List.setIfInBounds_toArray, List.set_cons_zero, List.set_cons_succ]
            refine takeH (i := 14) (v := ?_) rfl (by kernel_rfl) (by kernel_rfl) (by kernel_rfl) (fun _ _ _ h => h) (Or.inl ⟨by rfl, ?_⟩) hH ?_
            rotate_left
            · (intro w hSw; (try dsimp only at hSw); go_simp; try with_reducible rfl)
            simp only [Act.put, List.setIfInBounds_toArray, List.set_cons_zero, List.set_cons_succ]
            refine takeH (i := 15) (v := ?_) rfl (by kernel_rfl) (by kernel_rfl) (by kernel_rfl) (fun _ _ _ h => h) (Or.inl ⟨by rfl, ?_⟩) hH ?_
            rotate_left
            · (intro w hSw; (try dsimp only at hSw); go_simp; try with_reducible rfl)
            simp only [Act.put, List.setIfInBounds_toArray, List.set_cons_zero, List.set_cons_succ]
            refine oneH (i := 4) rfl (by kernel_rfl) (fun K hK => ?_)
            go_simp
            go_at_call 60
            refine (HLN1.out _).mono ?_; rintro e w3 ⟨rfl, hB3⟩
            refine hK.out _ _ (HS.out _ hB3) (fun hH => ?_)
            clear hK K
            refine oneH (i := 7) rfl (by kernel_rfl) (fun K hK => ?_)
            go_simp
            go_at_call 58
            refine (HQT.out _).mono ?_; rintro e w5 ⟨rfl, hB6⟩
            have hB3 := hB3.trans (hB6.mono hB3.size)
            refine hK.out _ _ (HS.out _ hB3) (fun hH => ?_)
            clear hK K
            refine takeH (i := 8) (v := ?_) rfl (by kernel_rfl) (by kernel_rfl) (by kernel_rfl) (fun _ _ _ h => h) (Or.inl ⟨by rfl, ?_⟩) hH ?_
            rotate_left
            · (intro w hSw; (try dsimp only at hSw); go_simp; try with_reducible rfl)
            simp only [Act.put, List.setIfInBounds_toArray, List.set_cons_zero, List.set_cons_succ]
            refine takeH (i := 10) (v := ?_) rfl (by kernel_rfl) (by kernel_rfl) (by kernel_rfl) (fun _ _ _ h => h) (Or.inl ⟨by rfl, ?_⟩) hH ?_
            rotate_left
            · (intro w hSw; (try dsimp only at hSw); go_simp; try with_reducible rfl)
            simp only [Act.put, List.setIfInBounds_toArray, List.set_cons_zero, List.set_cons_succ]
            refine oneH (i := 16) rfl (by kernel_rfl) (fun K hK => ?_)
            go_simp
            go_at_call 31
            refine (HCK.out _ (HWB.out _ hB3)).mono ?_; rintro e w4 ⟨rfl, hB4⟩
            have hB5 := hB3.trans (hB4.mono hB3.size)
            refine hK.out _ _ (HS.out _ hB5) (fun hH => ?_)
            clear hK K
            refine takeH (i := 17) (v := ?_) rfl (by kernel_rfl) (by kernel_rfl) (by kernel_rfl) (fun _ _ _ h => h) (Or.inl ⟨by rfl, ?_⟩) hH ?_
            rotate_left
            · (intro w hSw; (try dsimp only at hSw); go_simp; try with_reducible rfl)
            simp only [Act.put, List.setIfInBounds_toArray, List.set_cons_zero, List.set_cons_succ]
            refine oneH (i := 18) rfl (by kernel_rfl) (fun K hK => ?_)
            go_simp
            refine hK.out _ _ (HS.out _ (below_al hB5 _)) (fun hH => ?_)
            clear hK K
            refine wpAnyH_done (by kernel_rfl) ?_ _
            unfold TailPost
            simp only [List.drop_succ_cons, List.drop_zero]
            have HB4 := hide hB5
            have hs4 := hB5.size
            have HO4 := hide (own_below HOD.out hB5)
            clear hH hB3 hB4 hB5 HCK HLN1 HS HWB HQT
            go_wp2_with (at_builtin; refine wpList_append_all _ rfl (.tmp 66) (.tmp 84) _ rfl w1.heap.size 9 i0 _ 1 16 Tryz.underlying70 hi0 hz0 hz1 hz2 rfl (by omega) u9 i (strsV (L.take i)) rfl (HO4.out.alloc _) (some ⟨w4.heap.size, 0, none⟩) 1 1 [.string (LB ++ QT ++ ⟨#[58]⟩ ++ T)] rfl (by intro h; cases h) rfl (by intro ad' h; injection h with h; subst h; exact World.news_of_block (heap_alloc_new _ _)) one_str (by unfold maxLen; omega) (by omega) (by simp; omega) ?_)
            intro v' w' o1 o2
            have HB5 := hide (Below.grown (below_al (HBD.out.trans (HB4.out.mono hbsd)) (.cells #[.string (LB ++ QT ++ ⟨#[58]⟩ ++ T)] 9)) o2.out (by simp; omega) (fun k e => (HO4.out.lt k e).1))
            have HO5 := hide (show w'.ownsRow w1.heap.size 9 1 v' (i + 1) (strsV (L.take (i + 1))) by rw [HXX.out]; exact o1.out)
            clear o1 o2 HO4 HOD HB4 HBD HXX
            go_wp2_with fail
            go_roundw
            case rel => exact ⟨i + 1, by go_num, by omega, HB5, HO5⟩
            case measure => simp [intOf]; omega
          · obtain rfl : x = i := by omega
            obtain ⟨c0, c1, c2, c3, c4, c5⟩ := HC.out _ hB.out
            have HO1 := hide (show wr.ownsRow w1.heap.size 9 1 u9 x (strsV L) by
              have e : L.take x = L := by rw [← HLL.out, List.take_length]
              have := hO.out
              rw [e] at this; exact this)
            have HJ := hide fun W (h : Below wr.heap.size wr W) => joinC_run u9 L w1.heap.size W (by rw [HLL.out]; exact own_below HO1.out h) HSUM.out
            have HB1 := hide hB.out
            obtain ⟨A9, c9, rfl⟩ := own_form HO1.out
            clear hO hB hlt hi HI HX HLA HO1 ih
            by_cases hx0 : x = 0
            · subst hx0
              have HZ := hide (show res = ⟨#[123]⟩ ++ ⟨#[125]⟩ from HWR.out.trans (wrap_nil HLL.out))
              go_wp2_with fail
              go_ret
              exact ⟨ret_str HZ.out.symm, hwB⟩
            · have HZ := hide (show res = ⟨#[123]⟩ ++ joinC L ++ lineB false lv ++ ⟨#[125]⟩ from HWR.out.trans (wrap_cons (by rw [HLL.out]; exact hx0)))
              have hJs := Nat.le_trans (joinC_size L) HSUM.out
              have hLs := lineB_size false lv
              have hg1 : ((x : Int) == 0) = false := by simp; omega
              have HLM := hide fun W => HLN0.out W
              obtain ⟨J, hJ⟩ : ∃ J, J = joinC L := ⟨_, rfl⟩
              obtain ⟨LB, hLB⟩ : ∃ J, J = lineB false lv := ⟨_, rfl⟩
              rw [← hJ] at HJ HZ hJs
              rw [← hLB] at HLM HZ hLs
              have HCW := hide fun W (h : Below wr.heap.size wr W) => (HC.out W (HB1.out.trans (h.mono HB1.out.size))).1
              have ho1 : ¬ 9223372036854775807 < 1 + J.size := by omega
              have ho2 : ¬ 9223372036854775807 < 1 + J.size + LB.size := by omega
              have ho3 : ¬ 9223372036854775807 < 1 + J.size + LB.size + 1 := by omega
              clear hJ hLB HSUM HWR hx0
              go_upto_region 28 with fail
              obtain ⟨wd, hwd⟩ : ∃ W, W = wr.drew := ⟨_, rfl⟩
              have hBD : Below wr.heap.size wr wd := by rw [hwd]; exact (Below.refl _ _).drew
              have HJD := hide fun W (h : Below wd.heap.size wd W) => HJ.out W (hBD.trans (h.mono hBD.size))
              have HCD := hide fun W (h : Below wd.heap.size wd W) => HCW.out W (hBD.trans (h.mono hBD.size))
              have HBD := hide (hwB.trans (hBD.mono hwB.size))
              clear hBD HJ HCW hwB HB1 c0 c1 c2 c3 c4 c5
              refine region_two 9 (fun W => W.cell? ⟨gl, 0, none⟩ = some (.bool false)) (by kernel_rfl) (by kernel_rfl) (by rw [← hwd]; exact HCD.out _ (Below.refl _ _)) (fun hH => ?_)
              rw [← hwd] at hH ⊢
              clear hwd
              simp only [List.take_succ_cons, List.take_zero]
              refine takeH (i := 0) (v := ?_) rfl (by kernel_rfl) (by kernel_rfl) (by kernel_rfl) (fun _ _ _ h => h) (Or.inl ⟨by rfl, ?_⟩) hH ?_
              rotate_left
              · (intro w hSw; (try dsimp only at hSw); go_simp; try with_reducible rfl)
              simp only [Act.put, List.setIfInBounds_toArray, List.set_cons_zero, List.set_cons_succ]
              refine takeH (i := 1) (v := ?_) rfl (by kernel_rfl) (by kernel_rfl) (by kernel_rfl) (fun _ _ _ h => h) (Or.inl ⟨by rfl, ?_⟩) hH ?_
              rotate_left
              · (intro w hSw; (try dsimp only at hSw); go_simp; try with_reducible rfl)
              simp only [Act.put, List.setIfInBounds_toArray, List.set_cons_zero, List.set_cons_succ]
              refine takeH (i := 4) (v := ?_) rfl (by kernel_rfl) (by kernel_rfl) (by kernel_rfl) (fun _ _ _ h => h) (Or.inl ⟨by rfl, ?_⟩) hH ?_
              rotate_left
              · (intro w hSw; (try dsimp only at hSw); go_simp; try with_reducible rfl)
              simp only [Act.put, List.setIfInBounds_toArray, List.set_cons_zero, List.set_cons_succ]
              refine takeH (i := 5) (v := ?_) rfl (by kernel_rfl) (by kernel_rfl) (by kernel_rfl) (fun _ _ _ h => h) (Or.inl ⟨by rfl, ?_⟩) hH ?_
              rotate_left
              · (intro w hSw; (try dsimp only at hSw); go_simp; try with_reducible rfl)
              simp only [Act.put, List.setIfInBounds_toArray, List.set_cons_zero, List.set_cons_succ]
              refine takeH (i := 8) (v := ?_) rfl (by kernel_rfl) (by kernel_rfl) (by kernel_rfl) (fun _ _ _ h => h) (Or.inl ⟨by rfl, ?_⟩) hH ?_
              rotate_left
              · (intro w hSw; (try dsimp only at hSw); go_simp; try with_reducible rfl)
              simp only [Act.put, List.setIfInBounds_toArray, List.set_cons_zero, List.set_cons_succ]
              refine oneH (i := 2) rfl (by kernel_rfl) (fun K hK => ?_)
              go_simp
              go_at_call 61
              refine (HJD.out _ (Below.refl _ _)).mono ?_; rintro e w3 ⟨rfl, hB3⟩
              refine hK.out _ _ (HCD.out _ hB3) (fun hH => ?_)
              clear hK K
              refine takeH (i := 3) (v := ?_) rfl (by kernel_rfl) (by kernel_rfl) (by kernel_rfl) (fun _ _ _ h => h) (Or.inl ⟨by rfl, ?_⟩) hH ?_
              rotate_left
              · (intro w hSw; (try dsimp only at hSw); go_simp; try with_reducible rfl)
              simp only [Act.put, List.setIfInBounds_toArray, List.set_cons_zero, List.set_cons_succ]
              refine oneH (i := 6) rfl (by kernel_rfl) (fun K hK => ?_)
              go_simp
              go_at_call 60
              refine (HLM.out _).mono ?_; rintro e w4 ⟨rfl, hB4⟩
              have hB5 := hB3.trans (hB4.mono hB3.size)
              refine hK.out _ _ (HCD.out _ hB5) (fun hH => ?_)
              clear hK K
              refine takeH (i := 7) (v := ?_) rfl (by kernel_rfl) (by kernel_rfl) (by kernel_rfl) (fun _ _ _ h => h) (Or.inl ⟨by rfl, ?_⟩) hH ?_
              rotate_left
              · (intro w hSw; (try dsimp only at hSw); go_simp; try with_reducible rfl)
              simp only [Act.put, List.setIfInBounds_toArray, List.set_cons_zero, List.set_cons_succ]
              refine wpAnyH_done (by kernel_rfl) ?_ _
              unfold TailPost
              simp only [List.drop_succ_cons, List.drop_zero]
              have HB6 := hide (HBD.out.trans (hB5.mono HBD.out.size))
              clear hH hB3 hB4 hB5 HJD HLM HCD HBD
              go_wp2_with fail
              go_ret
              exact ⟨ret_str HZ.out.symm, HB6.out⟩
end Go.Proofs.YtmmbbndoimleaaaGreatDoor
