/- The walk of value of the reference's reader; Parse of the reference; The law of depth; The law of parsing. -/
import Derived.Test.YtmmbbndoimleaaaGreatDoorHAP
import Derived.Test.YtmmbbndoimleaaaGreatDoorHAJ
import Derived.Test.YtmmbbndoimleaaaGreatDoorHAI
import Derived.Test.YtmmbbndoimleaaaGreatDoorHAH

/- The walk of value of the reference's reader. -/
namespace Go.Proofs.YtmmbbndoimleaaaGreatDoor
open Go.RowKit

set_option maxRecDepth 100000 in
set_option maxHeartbeats 8000000 in
theorem rvalue_run (S : ByteArray) (g : Nat) (hS : S.size ≤ 1000000000) : ∀ (m i : Nat) (w : World), Rdr w g S i (0, 0) → i ≤ S.size → S.size < i + m →
    Calls Tryz.prog 27 #[.pointer (some ⟨g, 0, none⟩)] w (VR g S w m (clrV m S (valF S m (blk S i)))) := by
  intro m
  induction m with
  | zero => intro i w _ h1 h2; omega
  | succ m ih =>
    intro i w h hi hm
    obtain ⟨q, hq⟩ : ∃ q, q = blk S i := ⟨_, rfl⟩
    have hiq : i ≤ q := by rw [hq]; exact run_ge _ _ _
    have hqs : q ≤ S.size := by rw [hq]; exact run_le _ hi
    have HBL0 := hide fun V (h : Rdr V g S i (0, 0)) => rblanks_run S g i (0, 0) V h hS hi
    rw [show blkR S i (0, 0) = q by rw [hq]; rfl] at HBL0
    rw [← hq]
    have HBL := hide fun k f V (h : Rdr V g S k f) (hk : k ≤ S.size) => rblanks_run S g k f V h hS hk
    have HY := hide fun c V (h : Rdr V g S q (0, 0)) (hc : c ≠ 0) (hn : nx S q = c) => is_yes S g q c (0, 0) V h (by omega) hc rfl hn
    have HN := hide fun c V (h : Rdr V g S q (0, 0)) (hc : c ≠ 0) (hn : nx S q ≠ c) => is_no S g q c (0, 0) V h (by omega) hc (.inr hn)
    have HF := hide fun V (h : Rdr V g S q (0, 0)) => rfail_run S g q (0, 0) 19 (q : Int) V h
    rw [show keepF (0, 0) (19, (q : Int)) = (19, (q : Int)) from if_pos rfl] at HF
    have HWD := hide fun (W : ByteArray) V (h : Rdr V g S (q + 1) (0, 0)) (hk : q + 1 ≤ S.size) hW hz hne => rword_both S W g (q + 1) V h hk hS hW hz hne
    have HSTR := hide fun V (h : Rdr V g S (q + 1) (0, 0)) (hk : q + 1 ≤ S.size) => rstr_both S g (q + 1) V h hk hS
    have HLI := hide fun V (h : Rdr V g S (q + 1) (0, 0)) (hk : q + 1 ≤ S.size) => rlist_run S g m q V h hk hS fun k W hR h1 h2 => ih k W hR h2 (by omega)
    have HST := hide fun V (h : Rdr V g S (q + 1) (0, 0)) (hk : q + 1 ≤ S.size) => rstruct_run S g m q V h hk hS fun k W hR h1 h2 => ih k W hR h2 (by omega)
    have HNU := hide fun V (h : Rdr V g S q (0, 0)) => rnumber_run S g q V h hqs hS
    have HDG := hide fun V (h : Rdr V g S q (0, 0)) => rdigit_run S g q (0, 0) V h
    have HMO := hide fun V (h : Rdr V g S q (0, 0)) => more_run S g q (0, 0) V h
    unfold VR datV datCs at HLI HST
    have hgl := h.lt
    have HP := hide h
    clear h hq ih
    go_enter Tryz.func27, Tryz.ntmps27
    go_upto_region 1 with fail
    obtain ⟨w1, g2, e1, e2, hB1, _, _, _, _, _, hR1⟩ := boxD w 0 0 ⟨#[]⟩ (.slice none 0 0) (.slice none 0 0)
    have HP1 := hide (HP.out.below hB1)
    have hg2 : g2 < w1.heap.size := hR1.lt
    have HB1 := hide hB1; have HR1 := hide hR1
    rw [e1, e2]
    clear e1 hB1 hR1 HP
    go_wp2_with fail
    refine (HBL0.out _ HP1.out).mono ?_; rintro e w2 ⟨rfl, hr2, hx2⟩
    have HP2 := hide hr2
    have HX2 := hide (show Px g w w2 from (Px.of_below HB1.out).trans hx2)
    have HR2 := hide (show Row w2 g2 25 ZV from (hx2.2 g2 hg2 (by omega)).trans HR1.out)
    have hs2 := hx2.size
    clear hr2 hx2 HP1 HB1 HR1 HBL0
    go_upto_block 0 with fail
    obtain ⟨w3, g3, e3, e4, hB3, _, _, _, _, _, hR3⟩ := boxD w2 0 0 ⟨#[]⟩ (.slice none 0 0) (.slice none 0 0)
    have HST3 := hide (show WSv w g g2 g3 ZV w3 from ⟨⟨hgl, e2, by omega, hR3.lt⟩, HX2.out.below hB3, HR2.out.below hB3, hR3⟩)
    have HP3 := hide (HP2.out.below hB3)
    rw [e3, e4]
    clear e2 e3 e4 hB3 hR3 HX2 HR2 HP2 hs2 hg2
    go_cut [] from 13 to 67 (fun wc => Hid (CutV w g g2 g3 m q S wc))
    case first =>
      obtain ⟨p0, rfl⟩ : ∃ p, p = q := ⟨_, rfl⟩
      by_cases hx : nx S p0 = 110
      · have hq1 : p0 + 1 ≤ S.size := by have := nx_in (S := S) (i := p0) (by rw [hx]; decide); omega
        have HX := Lib.hid hx
        clear hx
        go_wp2_with fail
        refine (HY.out 110 _ HP3.out (by decide) HX.out).mono ?_; rintro e w8 ⟨rfl, hr8, hx8⟩
        have HRL := hide hr8; have HSL := hide (HST3.out.px hx8)
        clear hr8 hx8 HP3 HST3
        go_wp2_with fail
        refine (HWD.out ⟨#[117, 108, 108]⟩ _ HRL.out hq1 (by decide) (by decide) (by decide)).mono ?_; rintro e w9 ⟨p, f, rfl, hps, hr9, hx9, hcase⟩
        have HSW := hide (show SwR S m p0 (leafD 1 0 ⟨#[]⟩) p f from sw_null HX.out hps hcase)
        have HS9 := hide (HSL.out.px hx9)
        have HR9 := hide hr9
        clear hr9 hx9 hcase
        obtain ⟨t0, t1, t2, t3, t4⟩ := row5 HS9.out.2.2.2
        have f0 := HS9.out.2.2.2.frozen 0
        have f1 := HS9.out.2.2.2.frozen 1
        have f2 := HS9.out.2.2.2.frozen 2
        have f3 := HS9.out.2.2.2.frozen 3
        have f4 := HS9.out.2.2.2.frozen 4
        go_wp2_with fail
        go_meet
        case rel => exact hide ⟨leafD 1 0 ⟨#[]⟩, none, 0, none, 0, p, f, HS9.out.set5 _ _ _ _ _, leaf_pz _ _ _ _ _ _, rdr_far5 HR9.out (by have := HS9.out.1; omega) _ _ _ _ _, HSW.out⟩
      have HX110 := hide hx
      clear hx
      go_wp2_with fail
      refine (HN.out 110 _ HP3.out (by decide) HX110.out).mono ?_; rintro e w5 ⟨rfl, hr5, hx5⟩
      have HR110 := hide hr5; have HS110 := hide (HST3.out.px hx5)
      clear hr5 hx5 HP3 HST3
      by_cases hx : nx S p0 = 116
      · have hq1 : p0 + 1 ≤ S.size := by have := nx_in (S := S) (i := p0) (by rw [hx]; decide); omega
        have HX := Lib.hid hx
        clear hx
        go_wp2_with fail
        refine (HY.out 116 _ HR110.out (by decide) HX.out).mono ?_; rintro e w8 ⟨rfl, hr8, hx8⟩
        have HRL := hide hr8; have HSL := hide (HS110.out.px hx8)
        clear hr8 hx8 HR110 HS110
        go_wp2_with fail
        refine (HWD.out ⟨#[114, 117, 101]⟩ _ HRL.out hq1 (by decide) (by decide) (by decide)).mono ?_; rintro e w9 ⟨p, f, rfl, hps, hr9, hx9, hcase⟩
        have HSW := hide (show SwR S m p0 (leafD 2 1 ⟨#[]⟩) p f from sw_true HX.out hps hcase)
        have HS9 := hide (HSL.out.px hx9)
        have HR9 := hide hr9
        clear hr9 hx9 hcase
        obtain ⟨t0, t1, t2, t3, t4⟩ := row5 HS9.out.2.2.2
        have f0 := HS9.out.2.2.2.frozen 0
        have f1 := HS9.out.2.2.2.frozen 1
        have f2 := HS9.out.2.2.2.frozen 2
        have f3 := HS9.out.2.2.2.frozen 3
        have f4 := HS9.out.2.2.2.frozen 4
        go_wp2_with fail
        go_meet
        case rel => exact hide ⟨leafD 2 1 ⟨#[]⟩, none, 0, none, 0, p, f, HS9.out.set5 _ _ _ _ _, leaf_pz _ _ _ _ _ _, rdr_far5 HR9.out (by have := HS9.out.1; omega) _ _ _ _ _, HSW.out⟩
      have HX116 := hide hx
      clear hx
      go_wp2_with fail
      refine (HN.out 116 _ HR110.out (by decide) HX116.out).mono ?_; rintro e w6 ⟨rfl, hr6, hx6⟩
      have HR116 := hide hr6; have HS116 := hide (HS110.out.px hx6)
      clear hr6 hx6 HR110 HS110
      by_cases hx : nx S p0 = 102
      · have hq1 : p0 + 1 ≤ S.size := by have := nx_in (S := S) (i := p0) (by rw [hx]; decide); omega
        have HX := Lib.hid hx
        clear hx
        go_wp2_with fail
        refine (HY.out 102 _ HR116.out (by decide) HX.out).mono ?_; rintro e w8 ⟨rfl, hr8, hx8⟩
        have HRL := hide hr8; have HSL := hide (HS116.out.px hx8)
        clear hr8 hx8 HR116 HS116
        go_wp2_with fail
        refine (HWD.out ⟨#[97, 108, 115, 101]⟩ _ HRL.out hq1 (by decide) (by decide) (by decide)).mono ?_; rintro e w9 ⟨p, f, rfl, hps, hr9, hx9, hcase⟩
        have HSW := hide (show SwR S m p0 (leafD 2 0 ⟨#[]⟩) p f from sw_false HX.out hps hcase)
        have HS9 := hide (HSL.out.px hx9)
        have HR9 := hide hr9
        clear hr9 hx9 hcase
        obtain ⟨t0, t1, t2, t3, t4⟩ := row5 HS9.out.2.2.2
        have f0 := HS9.out.2.2.2.frozen 0
        have f1 := HS9.out.2.2.2.frozen 1
        have f2 := HS9.out.2.2.2.frozen 2
        have f3 := HS9.out.2.2.2.frozen 3
        have f4 := HS9.out.2.2.2.frozen 4
        go_wp2_with fail
        go_meet
        case rel => exact hide ⟨leafD 2 0 ⟨#[]⟩, none, 0, none, 0, p, f, HS9.out.set5 _ _ _ _ _, leaf_pz _ _ _ _ _ _, rdr_far5 HR9.out (by have := HS9.out.1; omega) _ _ _ _ _, HSW.out⟩
      have HX102 := hide hx
      clear hx
      go_wp2_with fail
      refine (HN.out 102 _ HR116.out (by decide) HX102.out).mono ?_; rintro e w7 ⟨rfl, hr7, hx7⟩
      have HR102 := hide hr7; have HS102 := hide (HS116.out.px hx7)
      clear hr7 hx7 HR116 HS116
      by_cases hx : nx S p0 = 34
      · have hq1 : p0 + 1 ≤ S.size := by have := nx_in (S := S) (i := p0) (by rw [hx]; decide); omega
        have HX := Lib.hid hx
        clear hx
        go_wp2_with fail
        refine (HY.out 34 _ HR102.out (by decide) HX.out).mono ?_; rintro e w8 ⟨rfl, hr8, hx8⟩
        have HRL := hide hr8; have HSL := hide (HS102.out.px hx8)
        clear hr8 hx8 HR102 HS102
        go_wp2_with fail
        refine (HSTR.out _ HRL.out hq1).mono ?_; rintro e w9 ⟨T, p, f, rfl, hps, hr9, hx9, hcase⟩
        have HSW := hide (show SwR S m p0 (leafD 4 0 T) p f from sw_str HX.out hps hcase)
        have HS9 := hide (HSL.out.px hx9)
        have HR9 := hide hr9
        clear hr9 hx9 hcase
        obtain ⟨t0, t1, t2, t3, t4⟩ := row5 HS9.out.2.2.2
        have f0 := HS9.out.2.2.2.frozen 0
        have f1 := HS9.out.2.2.2.frozen 1
        have f2 := HS9.out.2.2.2.frozen 2
        have f3 := HS9.out.2.2.2.frozen 3
        have f4 := HS9.out.2.2.2.frozen 4
        go_wp2_with fail
        go_meet
        case rel => exact hide ⟨leafD 4 0 T, none, 0, none, 0, p, f, HS9.out.set5 _ _ _ _ _, leaf_pz _ _ _ _ _ _, rdr_far5 HR9.out (by have := HS9.out.1; omega) _ _ _ _ _, HSW.out⟩
      have HX34 := hide hx
      clear hx
      go_wp2_with fail
      refine (HN.out 34 _ HR102.out (by decide) HX34.out).mono ?_; rintro e w8 ⟨rfl, hr8, hx8⟩
      have HR34 := hide hr8; have HS34 := hide (HS102.out.px hx8)
      clear hr8 hx8 HR102 HS102
      by_cases hx : nx S p0 = 91
      · have hq1 : p0 + 1 ≤ S.size := by have := nx_in (S := S) (i := p0) (by rw [hx]; decide); omega
        have HX := Lib.hid hx
        clear hx
        go_wp2_with fail
        refine (HY.out 91 _ HR34.out (by decide) HX.out).mono ?_; rintro e w8 ⟨rfl, hr8, hx8⟩
        have HRL := hide hr8; have HSL := hide (HS34.out.px hx8)
        clear hr8 hx8 HR34 HS34
        go_wp2_with fail
        refine (HLI.out _ HRL.out hq1).mono ?_; rintro e w9 ⟨d, a, c, a', c', p, f, rfl, hpz, hps, hr9, hx9, hcase⟩
        have HSW := hide (show SwR S m p0 d p f from sw_list HX.out hps hcase)
        have HS9 := hide (HSL.out.px hx9)
        have HR9 := hide hr9
        have HPZ := hide (pz_lo hpz (show g3 + 1 ≤ _ from HSL.out.1.2.2.2))
        clear hr9 hx9 hcase hpz
        obtain ⟨t0, t1, t2, t3, t4⟩ := row5 HS9.out.2.2.2
        have f0 := HS9.out.2.2.2.frozen 0
        have f1 := HS9.out.2.2.2.frozen 1
        have f2 := HS9.out.2.2.2.frozen 2
        have f3 := HS9.out.2.2.2.frozen 3
        have f4 := HS9.out.2.2.2.frozen 4
        go_wp2_with fail
        go_meet
        case rel => exact hide ⟨d, a, c, a', c', p, f, HS9.out.set5 _ _ _ _ _, HPZ.out.turn (by simp only [csize_set]; exact Nat.le_refl _) fun k j1 _ _ => ⟨set5_heap _ _ _ _ _ _ _ (by omega), j1, by simp⟩, rdr_far5 HR9.out (by have := HS9.out.1; omega) _ _ _ _ _, HSW.out⟩
      have HX91 := hide hx
      clear hx
      go_wp2_with fail
      refine (HN.out 91 _ HR34.out (by decide) HX91.out).mono ?_; rintro e w9 ⟨rfl, hr9, hx9⟩
      have HR91 := hide hr9; have HS91 := hide (HS34.out.px hx9)
      clear hr9 hx9 HR34 HS34
      by_cases hx : nx S p0 = 123
      · have hq1 : p0 + 1 ≤ S.size := by have := nx_in (S := S) (i := p0) (by rw [hx]; decide); omega
        have HX := Lib.hid hx
        clear hx
        go_wp2_with fail
        refine (HY.out 123 _ HR91.out (by decide) HX.out).mono ?_; rintro e w8 ⟨rfl, hr8, hx8⟩
        have HRL := hide hr8; have HSL := hide (HS91.out.px hx8)
        clear hr8 hx8 HR91 HS91
        go_wp2_with fail
        refine (HST.out _ HRL.out hq1).mono ?_; rintro e w9 ⟨d, a, c, a', c', p, f, rfl, hpz, hps, hr9, hx9, hcase⟩
        have HSW := hide (show SwR S m p0 d p f from sw_struct HX.out hps hcase)
        have HS9 := hide (HSL.out.px hx9)
        have HR9 := hide hr9
        have HPZ := hide (pz_lo hpz (show g3 + 1 ≤ _ from HSL.out.1.2.2.2))
        clear hr9 hx9 hcase hpz
        obtain ⟨t0, t1, t2, t3, t4⟩ := row5 HS9.out.2.2.2
        have f0 := HS9.out.2.2.2.frozen 0
        have f1 := HS9.out.2.2.2.frozen 1
        have f2 := HS9.out.2.2.2.frozen 2
        have f3 := HS9.out.2.2.2.frozen 3
        have f4 := HS9.out.2.2.2.frozen 4
        go_wp2_with fail
        go_meet
        case rel => exact hide ⟨d, a, c, a', c', p, f, HS9.out.set5 _ _ _ _ _, HPZ.out.turn (by simp only [csize_set]; exact Nat.le_refl _) fun k j1 _ _ => ⟨set5_heap _ _ _ _ _ _ _ (by omega), j1, by simp⟩, rdr_far5 HR9.out (by have := HS9.out.1; omega) _ _ _ _ _, HSW.out⟩
      have HX123 := hide hx
      clear hx
      go_wp2_with fail
      refine (HN.out 123 _ HR91.out (by decide) HX123.out).mono ?_; rintro e w10 ⟨rfl, hr10, hx10⟩
      have HR123 := hide hr10; have HS123 := hide (HS91.out.px hx10)
      clear hr10 hx10 HR91 HS91
      have HPd := hide fun n => (show Rdr (w10.drewN n) g S p0 (0, 0) from HR123.out.drewN n)
      obtain ⟨c0, c1, c2, c3⟩ := HR123.out.cells
      have HDG1 := hide fun V (h : Rdr V g S p0 (0, 0)) => HDG.out V h
      simp only [beq_self_eq_true, Bool.true_and] at HDG1
      have HMO1 := hide fun V (h : Rdr V g S p0 (0, 0)) => HMO.out V h
      cases hd : digB (nx S p0) with
      | true =>
        have HX := hide (show nx S p0 = 45 ∨ digB (nx S p0) = true from .inr hd)
        rw [hd] at HDG1
        clear hd
        go_wp2_with fail
        go_quiet ((first | (go_at_call 52; exact Calls.quiet_of (HDG1.out _ (HPd.out _))) | (go_at_call 53; exact Calls.quiet_of (HMO1.out _ (HPd.out _)))))
        obtain ⟨w8, hw8⟩ : ∃ W, W = w10.drewN nq := ⟨_, rfl⟩
        have HR8 := hide (show Rdr w8 g S p0 (0, 0) by rw [hw8]; exact HR123.out.drewN _)
        have HS8 := hide (HS123.out.px (show Px g w10 w8 by rw [hw8]; exact Px.refl.drewN _))
        rw [← hw8]
        clear hw8 HR123 HS123
        clear c0 c1 c2 c3
        go_wp2_with fail
        refine (HNU.out _ HR8.out).mono ?_; rintro e w9 ⟨k, n, p, f, rfl, hps, hr9, hx9, hcase⟩
        have HSW := hide (show SwR S m p0 (leafD k n ⟨#[]⟩) p f from sw_num HX.out hps hcase)
        have HS9 := hide (HS8.out.px hx9)
        have HR9 := hide hr9
        clear hr9 hx9 hcase
        obtain ⟨t0, t1, t2, t3, t4⟩ := row5 HS9.out.2.2.2
        have f0 := HS9.out.2.2.2.frozen 0
        have f1 := HS9.out.2.2.2.frozen 1
        have f2 := HS9.out.2.2.2.frozen 2
        have f3 := HS9.out.2.2.2.frozen 3
        have f4 := HS9.out.2.2.2.frozen 4
        go_wp2_with fail
        go_meet
        case rel => exact hide ⟨leafD k n ⟨#[]⟩, none, 0, none, 0, p, f, HS9.out.set5 _ _ _ _ _, leaf_pz _ _ _ _ _ _, rdr_far5 HR9.out (by have := HS9.out.1; omega) _ _ _ _ _, HSW.out⟩
      | false =>
        rw [hd] at HDG1
        by_cases hlt : p0 < S.size
        · have em : moreB S p0 (0, 0) = true := by unfold moreB; simpa using hlt
          rw [em] at HMO1
          obtain ⟨x, hx⟩ : ∃ x, x = (S[p0]).toNat := ⟨_, rfl⟩
          have hS2 : (S[p0]).toNat = x := hx.symm
          have HNX := hide (show nx S p0 = x by rw [hx]; exact nx_at hlt)
          by_cases h45 : x = 45
          · subst h45
            have HX := hide (show nx S p0 = 45 ∨ digB (nx S p0) = true from .inl HNX.out)
            clear hd em hx
            go_wp2_with fail
            go_quiet ((first | (go_at_call 52; exact Calls.quiet_of (HDG1.out _ (HPd.out _))) | (go_at_call 53; exact Calls.quiet_of (HMO1.out _ (HPd.out _)))))
            obtain ⟨w8, hw8⟩ : ∃ W, W = w10.drewN nq := ⟨_, rfl⟩
            have HR8 := hide (show Rdr w8 g S p0 (0, 0) by rw [hw8]; exact HR123.out.drewN _)
            have HS8 := hide (HS123.out.px (show Px g w10 w8 by rw [hw8]; exact Px.refl.drewN _))
            rw [← hw8]
            clear hw8 HR123 HS123
            clear c0 c1 c2 c3
            go_wp2_with fail
            refine (HNU.out _ HR8.out).mono ?_; rintro e w9 ⟨k, n, p, f, rfl, hps, hr9, hx9, hcase⟩
            have HSW := hide (show SwR S m p0 (leafD k n ⟨#[]⟩) p f from sw_num HX.out hps hcase)
            have HS9 := hide (HS8.out.px hx9)
            have HR9 := hide hr9
            clear hr9 hx9 hcase
            obtain ⟨t0, t1, t2, t3, t4⟩ := row5 HS9.out.2.2.2
            have f0 := HS9.out.2.2.2.frozen 0
            have f1 := HS9.out.2.2.2.frozen 1
            have f2 := HS9.out.2.2.2.frozen 2
            have f3 := HS9.out.2.2.2.frozen 3
            have f4 := HS9.out.2.2.2.frozen 4
            go_wp2_with fail
            go_meet
            case rel => exact hide ⟨leafD k n ⟨#[]⟩, none, 0, none, 0, p, f, HS9.out.set5 _ _ _ _ _, leaf_pz _ _ _ _ _ _, rdr_far5 HR9.out (by have := HS9.out.1; omega) _ _ _ _ _, HSW.out⟩
          · have d45 : ((x : Int) == 45) = false := by simp; omega
            have HSW := hide (sw_none (m := m) hqs HX110.out HX116.out HX102.out HX34.out HX91.out HX123.out (by rw [HNX.out]; exact h45) hd)
            clear hd em hx h45
            go_wp2_with fail
            go_quiet ((first | (go_at_call 52; exact Calls.quiet_of (HDG1.out _ (HPd.out _))) | (go_at_call 53; exact Calls.quiet_of (HMO1.out _ (HPd.out _)))))
            obtain ⟨w8, hw8⟩ : ∃ W, W = w10.drewN nq := ⟨_, rfl⟩
            have HR8 := hide (show Rdr w8 g S p0 (0, 0) by rw [hw8]; exact HR123.out.drewN _)
            have HS8 := hide (HS123.out.px (show Px g w10 w8 by rw [hw8]; exact Px.refl.drewN _))
            rw [← hw8]
            clear hw8 HR123 HS123
            clear c0 c1 c2 c3
            obtain ⟨c0, c1, c2, c3⟩ := HR8.out.cells
            go_wp2_with fail
            refine (HF.out _ HR8.out).mono ?_; rintro e w11 ⟨rfl, hr10, hx10⟩
            have HR10 := hide hr10
            have HS10 := hide (HS8.out.px hx10)
            clear hr10 hx10 c0 c1 c2 c3
            go_wp2_with fail
            go_meet
            case rel => exact hide ⟨zeroD, none, 0, none, 0, p0, _, HS10.out, zero_pz _ _ _, HR10.out, HSW.out⟩
        · have em : moreB S p0 (0, 0) = false := by unfold moreB; simpa using hlt
          rw [em] at HMO1
          have HSW := hide (sw_none (m := m) hqs HX110.out HX116.out HX102.out HX34.out HX91.out HX123.out (by rw [nx_past hlt]; decide) hd)
          clear hd em
          go_wp2_with fail
          go_quiet ((first | (go_at_call 52; exact Calls.quiet_of (HDG1.out _ (HPd.out _))) | (go_at_call 53; exact Calls.quiet_of (HMO1.out _ (HPd.out _)))))
          obtain ⟨w8, hw8⟩ : ∃ W, W = w10.drewN nq := ⟨_, rfl⟩
          have HR8 := hide (show Rdr w8 g S p0 (0, 0) by rw [hw8]; exact HR123.out.drewN _)
          have HS8 := hide (HS123.out.px (show Px g w10 w8 by rw [hw8]; exact Px.refl.drewN _))
          rw [← hw8]
          clear hw8 HR123 HS123
          clear c0 c1 c2 c3
          obtain ⟨c0, c1, c2, c3⟩ := HR8.out.cells
          go_wp2_with fail
          refine (HF.out _ HR8.out).mono ?_; rintro e w11 ⟨rfl, hr10, hx10⟩
          have HR10 := hide hr10
          have HS10 := hide (HS8.out.px hx10)
          clear hr10 hx10 c0 c1 c2 c3
          go_wp2_with fail
          go_meet
          case rel => exact hide ⟨zeroD, none, 0, none, 0, p0, _, HS10.out, zero_pz _ _ _, HR10.out, HSW.out⟩
    case rest =>
      clear HST3 HP3
      obtain ⟨d, a, c, a', c', p, f, hst, hpz, hrd, hsw⟩ := hcut.out
      unfold datCs at hst
      have HPZ := hide hpz; have HSW := hide hsw; have HST5 := hide hst
      have hps := hsw.1
      have HRD := hide hrd
      obtain ⟨nl, hnl⟩ : ∃ N, N = (iD d).length := ⟨_, rfl⟩
      obtain ⟨nm, hnm⟩ : ∃ N, N = (mD d).length := ⟨_, rfl⟩
      rw [← hnl, ← hnm] at HST5
      have HNL := Lib.hid hnl; have HNM := Lib.hid hnm
      clear hst hpz hrd hsw hcut hnl hnm
      go_wp2_with fail
      refine (HBL.out p f _ HRD.out hps).mono ?_; rintro e w5 ⟨rfl, hr5, hx5⟩
      have HS6 := hide (HST5.out.px hx5)
      have HR6 := hide (show Rdr w5 g S (blkR S p f) f from hr5)
      have HPZ6 := hide (pz_px HPZ.out hx5 (by have := HST5.out.1; omega))
      obtain ⟨t0, t1, t2, t3, t4⟩ := row5 HS6.out.2.2.2
      have HZ2 := hide HS6.out.2.2.1
      obtain ⟨r0, r1, r2, r3, r4⟩ := row5 HZ2.out
      have f0 := HZ2.out.frozen 0
      have f1 := HZ2.out.frozen 1
      have f2 := HZ2.out.frozen 2
      have f3 := HZ2.out.frozen 3
      have f4 := HZ2.out.frozen 4
      clear hr5 hx5 HST5 HRD HPZ
      go_wp2_with fail
      refine bodyPost_ret (results_dat rfl _ _ g2 _ _ _ _ _ rfl (row_set5 HZ2.out _ _ _ _ _)) rfl ?_
      have hfin := fun x0 x1 x2 x3 x4 => val_end2 HS6.out HPZ6.out HR6.out HSW.out rfl x0 x1 x2 x3 x4
      unfold datV datCs at hfin
      rw [← HNL.out, ← HNM.out] at hfin
      exact hfin _ _ _ _ _
end Go.Proofs.YtmmbbndoimleaaaGreatDoor

/- Parse of the reference. -/
namespace Go.Proofs.YtmmbbndoimleaaaGreatDoor
open Go.RowKit

theorem parse_bad {S : ByteArray} {f : Flt} (hs : S.size ≤ 65536) (h : valF S (S.size + 1) (blk S 0) = .error f) : parseF S = (zeroD, f) := by
  unfold parseF
  rw [if_neg (by omega), h]
theorem parse_more {S : ByteArray} {d0 : Dt} {j : Nat} (hs : S.size ≤ 65536) (h : valF S (S.size + 1) (blk S 0) = .ok (d0, j)) (hj : blk S j < S.size) : parseF S = (zeroD, (19, ((blk S j : Nat) : Int))) := by
  unfold parseF
  rw [if_neg (by omega), h]
  simp only
  rw [if_pos hj]
theorem parse_deep {S : ByteArray} {d0 : Dt} {j : Nat} (hs : S.size ≤ 65536) (h : valF S (S.size + 1) (blk S 0) = .ok (d0, j)) (hj : ¬ blk S j < S.size) (hz : checkD (clearF (S.size + 1) d0) ≠ 0) : parseF S = (zeroD, (9, 0)) := by
  have h1 := (makes_same (S.size + 1) d0).1
  have h2 : checkD (cleanF (S.size + 1) 1 d0) = 0 ∨ checkD (cleanF (S.size + 1) 1 d0) = 9 := good_check (S.size + 1) (val_good _ h) 16 (S.size + 1) 1 (by decide) (Nat.le_refl _)
  have h3 : checkD (cleanF (S.size + 1) 1 d0) ≠ 0 := by rw [h1]; exact hz
  unfold parseF
  rw [if_neg (by omega), h]
  simp only
  rw [if_neg hj, if_neg h3, h2.resolve_left h3]
theorem parse_fine {S : ByteArray} {d0 : Dt} {j : Nat} (hs : S.size ≤ 65536) (h : valF S (S.size + 1) (blk S 0) = .ok (d0, j)) (hj : ¬ blk S j < S.size) (hz : checkD (clearF (S.size + 1) d0) = 0) : parseF S = (clearF (S.size + 1) d0, (0, 0)) := by
  obtain ⟨h1, h2⟩ := makes_same (S.size + 1) d0
  obtain ⟨h3, _⟩ := h2 hz
  unfold parseF
  rw [if_neg (by omega), h]
  simp only
  rw [if_neg hj, if_pos (by rw [h1]; exact hz), h3]
/-- What the reference's Parse answers behind a value. -/
theorem parse_cases {S : ByteArray} {d : Dt} {p : Nat} {f : Flt} (hs : S.size ≤ 65536) (h : f = (0, 0) ∧ clrV (S.size + 1) S (valF S (S.size + 1) (blk S 0)) = .ok (d, p) ∨ f.1 ≠ 0 ∧ clrV (S.size + 1) S (valF S (S.size + 1) (blk S 0)) = .error f) :
    (f.1 ≠ 0 → parseF S = (zeroD, f)) ∧ (f.1 = 0 → f = (0, 0) ∧ (p < S.size → parseF S = (zeroD, (19, (p : Int)))) ∧ (¬ p < S.size → (checkD d ≠ 0 → parseF S = (zeroD, (9, 0))) ∧ (checkD d = 0 → parseF S = (d, (0, 0))))) := by
  rcases h with ⟨rfl, h⟩ | ⟨hf, h⟩
  · refine ⟨fun h => absurd rfl h, fun _ => ⟨rfl, fun hp => ?_, fun hp => ⟨fun hz => ?_, fun hz => ?_⟩⟩⟩
    all_goals
      obtain ⟨d0, j, h0, rfl, rfl⟩ := clrV_ok h
    · exact parse_more hs h0 hp
    · exact parse_deep hs h0 hp hz
    · exact parse_fine hs h0 hp hz
  · exact ⟨fun _ => parse_bad hs (clrV_err h), fun h0 => absurd h0 hf⟩

/-- The blocks of a call of Parse. -/
def QSt (w : World) (g2 gf gr : Nat) (S : ByteArray) (p : Nat) (f : Flt) (W : World) : Prop :=
  (w.heap.size = g2 ∧ gf = g2 + 1 ∧ gr = g2 + 2) ∧ gr < W.heap.size ∧ Below w.heap.size w W ∧ Row W g2 25 ZV ∧ Row W gf 32 [.int .i64 0, .int .i64 0] ∧ Rdr W gr S p f
theorem QSt.px {w W W' : World} {g2 gf gr p p' : Nat} {S : ByteArray} {f f' : Flt} (h : QSt w g2 gf gr S p f W) (hX : Px gr W W') (hR : Rdr W' gr S p' f') : QSt w g2 gf gr S p' f' W' := by
  obtain ⟨h0, h1, h2, h3, h4, _⟩ := h
  exact ⟨h0, Nat.lt_of_lt_of_le h1 hX.size, Px.to_below h2 hX (by omega) (by omega), (hX.2 g2 (by omega) (by omega)).trans h3, (hX.2 gf (by omega) (by omega)).trans h4, hR⟩
theorem QSt.below {w W W' : World} {g2 gf gr p : Nat} {S : ByteArray} {f : Flt} (h : QSt w g2 gf gr S p f W) (hB : Below W.heap.size W W') : QSt w g2 gf gr S p f W' := h.px (Px.of_below hB) (h.2.2.2.2.2.below hB)
/-- The last stores. -/
theorem parse_end {w W : World} {g2 gf gr p m : Nat} {S : ByteArray} {f : Flt} {r : Dt × Flt} {a : Option Addr} {c : Nat} {a' : Option Addr} {c' : Nat} (h : QSt w g2 gf gr S p f W) (hP : PZ (gr + 1) none W m r.1 a c a' c') (x0 x1 x2 x3 x4 y0 y1 : Value) :
    Row (((set5 W g2 x0 x1 x2 x3 x4).setCell ⟨gf, 0, none⟩ y0).setCell ⟨gf, 1, none⟩ y1) g2 25 [x0, x1, x2, x3, x4] ∧ Row (((set5 W g2 x0 x1 x2 x3 x4).setCell ⟨gf, 0, none⟩ y0).setCell ⟨gf, 1, none⟩ y1) gf 32 [y0, y1] ∧
    ParsePost w m r (.returned (.tuple #[datV r.1 a c a' c', .agg #[.int .i64 r.2.1, .int .i64 r.2.2]])) (((set5 W g2 x0 x1 x2 x3 x4).setCell ⟨gf, 0, none⟩ y0).setCell ⟨gf, 1, none⟩ y1) := by
  obtain ⟨h0, h1, h2, h3, h4, _⟩ := h
  refine ⟨((row_set5 h3 x0 x1 x2 x3 x4).far (p := ⟨gf, 0, none⟩) (by show g2 ≠ gf; omega) _).far (p := ⟨gf, 1, none⟩) (by show g2 ≠ gf; omega) _, ((row_far5 h4 (by omega) x0 x1 x2 x3 x4).set_ 0 y0).set_ 1 y1, a, c, a', c', rfl, ?_, ?_⟩
  · refine hP.turn (by simp only [csize_set, set5_size]; exact Nat.le_refl _) fun k k1 _ _ => ⟨?_, by omega, by simp⟩
    rw [Below.heap_setCell _ _ _ _ (by show k ≠ gf; omega), Below.heap_setCell _ _ _ _ (by show k ≠ gf; omega), set5_heap _ _ _ _ _ _ _ (by omega)]
  · exact ((below_set5 h2 (by omega) x0 x1 x2 x3 x4).setCell (p := ⟨gf, 0, none⟩) (by show _ ≤ gf; omega) _).setCell (p := ⟨gf, 1, none⟩) (by show _ ≤ gf; omega) _

set_option maxRecDepth 100000 in
set_option maxHeartbeats 4000000 in
theorem rParse_run (S : ByteArray) (w : World) (hS : S.size ≤ 65536) : Calls Tryz.prog 14 #[.string S] w (ParsePost w (S.size + 1) (parseF S)) := by
  obtain ⟨r, hr⟩ : ∃ r, r = parseF S := ⟨_, rfl⟩
  rw [← hr]
  obtain ⟨m, hm⟩ : ∃ m, m = S.size + 1 := ⟨_, rfl⟩
  have HPC := hide fun d p f h => parse_cases (S := S) (d := d) (p := p) (f := f) hS h
  have HV := hide fun g W (h : Rdr W g S 0 (0, 0)) => rvalue_run S g (by omega) m 0 W h (Nat.zero_le _) (by omega)
  have HFF := hide fun (e a : Int) g k f V (h : Rdr V g S k f) => rfail_run S g k f e a V h
  have HCK := hide fun d a c a' c' W (h : Parts W W.heap.size m d a c a' c') => refCheck_run m d a c a' c' W h
  rw [← hm] at HPC ⊢
  rw [← hr] at HPC
  unfold VR datV datCs at HV
  unfold datV datCs at HCK
  have HZP := hide fun lo W => (show PZ lo none W m zeroD none 0 none 0 by rw [hm]; exact zero_pz _ _ _)
  have g0 : ¬ (65536 : Int) < (S.size : Int) := by omega
  clear hr hm
  go_enter Tryz.func14, Tryz.ntmps14
  go_upto_region 1 with fail
  obtain ⟨w2, g2, gf, k1, k3, k4, hB2, hR2, hF2⟩ := boxDF w 0 0 ⟨#[]⟩ (.slice none 0 0) (.slice none 0 0) 0 0
  rw [k1, k3, show g2 + 1 = gf by omega]
  have hs2 : w2.heap.size = g2 + 2 := by rw [← k1, ← k3]; simp
  have HS2 := Lib.hid hs2; have HB2 := hide hB2; have HR2 := hide hR2; have HF2 := hide hF2; have HK := hide (And.intro k3 k4)
  clear hs2 hB2 hR2 hF2 k1 k3 k4
  go_upto_region 4 with fail
  have hs2 := HS2.out; have hB2 := HB2.out; have hR2 := HR2.out; have hF2 := HF2.out; obtain ⟨k3, k4⟩ := HK.out
  clear HS2 HB2 HR2 HF2 HK
  obtain ⟨w3, hw3⟩ : ∃ W, W = w2.alloc (.cells #[.string S, .int .i64 0, .int .i64 0, .int .i64 0] 55) := ⟨_, rfl⟩
  obtain ⟨gr, hgr⟩ : ∃ k, k = w2.heap.size := ⟨_, rfl⟩
  have hB3 : Below w2.heap.size w2 w3 := by rw [hw3]; exact below_al (Below.refl _ _) _
  have HQ := hide (show QSt w g2 gf gr S 0 (0, 0) w3 from ⟨⟨k3, by omega, by omega⟩, by rw [hw3, hgr]; simp, hB2.trans (hB3.mono hB2.size), hR2.below hB3, hF2.below hB3, by rw [hw3, hgr]; exact Row.new w2 _ _⟩)
  rw [← hw3, ← hgr]
  clear hw3 hgr hB3 hB2 hR2 hF2 k3 k4 hs2
  go_wp2_with fail
  refine (HV.out gr _ HQ.out.2.2.2.2.2).mono ?_; rintro e w4 ⟨d, a, c, a', c', p, f, rfl, hpz, hps, hr4, hx4, hcase⟩
  have HPC1 := hide (HPC.out d p f hcase)
  have HQ4 := hide (HQ.out.px hx4 hr4)
  have HPZ4 := hide (pz_lo hpz (show gr + 1 ≤ _ from HQ.out.2.1))
  clear hr4 hx4 hpz hcase HPC HV HQ
  obtain ⟨nl, hnl⟩ : ∃ N, N = (iD d).length := ⟨_, rfl⟩
  obtain ⟨nm, hnm⟩ : ∃ N, N = (mD d).length := ⟨_, rfl⟩
  have HCK1 := hide fun W (h : Parts W W.heap.size m d a c a' c') => HCK.out d a c a' c' W h
  rw [← hnl, ← hnm] at HCK1
  rw [← hnl, ← hnm]
  have HNL := Lib.hid hnl; have HNM := Lib.hid hnm
  clear hnl hnm HCK
  go_upto_region 5 with fail
  obtain ⟨w5, g5, e1, e2, hB5, _, _, _, _, _, hR5⟩ := boxD w4 (kD d) (nD d) (sD d) (.slice a nl c) (.slice a' nm c')
  rw [e1, e2]
  have HQ5 := hide (HQ4.out.below hB5)
  have HPZ5 := hide (pz_below HPZ4.out hB5)
  have HR5 := hide fun W (h : Below w5.heap.size w5 W) => row5 (hR5.below h)
  have HR5X := hide fun W (h : Px gr w5 W) => (show Row W g5 25 _ from (h.2 g5 hR5.lt (by have := HQ4.out.2.1; omega)).trans hR5)
  clear e1 e2 hB5 hR5 HQ4 HPZ4
  obtain ⟨q0, q1, q2, q3⟩ := HQ5.out.2.2.2.2.2.cells
  by_cases hf : f.1 = 0
  · obtain ⟨rfl, hc1, hc2⟩ := HPC1.out.2 hf
    by_cases hp : p < S.size
    · have HRE := hide (hc1 hp)
      have hpi : (p : Int) < (S.size : Int) := by omega
      have HF1 := hide fun V (h : Rdr V gr S p (0, 0)) => HFF.out 19 (p : Int) gr p (0, 0) V h
      rw [show keepF (0, 0) (19, (p : Int)) = (19, (p : Int)) from if_pos rfl] at HF1
      clear hc1 hc2 hf HPC1 HFF HCK1
      go_wp2_with fail
      refine (HF1.out _ HQ5.out.2.2.2.2.2).mono ?_; rintro e w6 ⟨rfl, hr6, hx6⟩
      have HQ6 := hide (HQ5.out.px hx6 hr6)
      clear hr6 hx6 HQ5 HF1 q0 q1 q2 q3
      obtain ⟨q0, q1, q2, q3⟩ := HQ6.out.2.2.2.2.2.cells
      obtain ⟨wd, hwd⟩ : ∃ W, W = w6.drew := ⟨_, rfl⟩
      have HQD := hide (show QSt w g2 gf gr S p (19, (p : Int)) wd by rw [hwd]; exact HQ6.out.below (Below.refl _ _).drew)
      have HWD := Lib.hid hwd
      clear hwd
      go_upto_region 10 with fail
      refine region_two 6 (fun W => W.cell? ⟨gr, 2, none⟩ = some (.int .i64 19) ∧ W.cell? ⟨gr, 3, none⟩ = some (.int .i64 (p : Int))) (by kernel_rfl) (by kernel_rfl) (by rw [← HWD.out]; exact ⟨HQD.out.2.2.2.2.2.cells.2.2.1, HQD.out.2.2.2.2.2.cells.2.2.2⟩) (fun hH => ?_)
      rw [← HWD.out] at hH ⊢
      clear HWD q0 q1 q2 q3
      simp only [List.take_succ_cons, List.take_zero]
      refine takeH (i := 0) (v := ?_) rfl (by kernel_rfl) (by kernel_rfl) (by kernel_rfl) (fun _ _ _ h => h) (Or.inl ⟨by rfl, ?_⟩) hH ?_
      rotate_left
      · (intro w hSw; (try dsimp only at hSw); go_simp; try with_reducible rfl)
      simp only [Act.put, List.setIfInBounds_toArray, List.set_cons_zero, List.set_cons_succ]
      refine takeH (i := 1) (v := ?_) rfl (by kernel_rfl) (by kernel_rfl) (by kernel_rfl) (fun _ _ _ h => h) (Or.inl ⟨by rfl, ?_⟩) hH ?_
      rotate_left
      · (intro w hSw; (try dsimp only at hSw); go_simp; try with_reducible rfl)
      simp only [Act.put, List.setIfInBounds_toArray, List.set_cons_zero, List.set_cons_succ]
      refine takeH (i := 2) (v := ?_) rfl (by kernel_rfl) (by kernel_rfl) (by kernel_rfl) (fun _ _ _ h => h) (Or.inl ⟨by rfl, ?_⟩) hH ?_
      rotate_left
      · (intro w hSw; (try dsimp only at hSw); go_simp; try with_reducible rfl)
      simp only [Act.put, List.setIfInBounds_toArray, List.set_cons_zero, List.set_cons_succ]
      refine takeH (i := 3) (v := ?_) rfl (by kernel_rfl) (by kernel_rfl) (by kernel_rfl) (fun _ _ _ h => h) (Or.inl ⟨by rfl, ?_⟩) hH ?_
      rotate_left
      · (intro w hSw; (try dsimp only at hSw); go_simp; try with_reducible rfl)
      simp only [Act.put, List.setIfInBounds_toArray, List.set_cons_zero, List.set_cons_succ]
      refine takeH (i := 4) (v := ?_) rfl (by kernel_rfl) (by kernel_rfl) (by kernel_rfl) (fun _ _ _ h => h) (Or.inl ⟨by rfl, ?_⟩) hH ?_
      rotate_left
      · (intro w hSw; (try dsimp only at hSw); go_simp; try with_reducible rfl)
      simp only [Act.put, List.setIfInBounds_toArray, List.set_cons_zero, List.set_cons_succ]
      have HEND := hide fun x0 x1 x2 x3 x4 y0 y1 => parse_end (r := (zeroD, (19, (p : Int)))) HQD.out (HZP.out (gr + 1) wd) x0 x1 x2 x3 x4 y0 y1
      obtain ⟨r0, r1, r2, r3, r4⟩ := row5 HQD.out.2.2.2.1
      have f0 := HQD.out.2.2.2.1.frozen 0
      have f1 := HQD.out.2.2.2.1.frozen 1
      have f2 := HQD.out.2.2.2.1.frozen 2
      have f3 := HQD.out.2.2.2.1.frozen 3
      have f4 := HQD.out.2.2.2.1.frozen 4
      refine oneH (i := 5) rfl (by kernel_rfl) (fun K hK => ?_)
      go_simp
      refine hK.out _ _ (show (set5 wd g2 _ _ _ _ _).cell? _ = _ ∧ (set5 wd g2 _ _ _ _ _).cell? _ = _ from And.intro (rdr_far5 HQD.out.2.2.2.2.2 (by have := HQD.out.1; omega) _ _ _ _ _).cells.2.2.1 (rdr_far5 HQD.out.2.2.2.2.2 (by have := HQD.out.1; omega) _ _ _ _ _).cells.2.2.2) (fun hH => ?_)
      clear hK K hH
      refine wpAnyH_done (by kernel_rfl) ?_ _
      unfold TailPost
      simp only [List.drop_succ_cons, List.drop_zero]
      have s0 : wd.cell? ⟨gf, 0, none⟩ = some (.int .i64 0) := HQD.out.2.2.2.2.1.cell 0
      have s1 : wd.cell? ⟨gf, 1, none⟩ = some (.int .i64 0) := HQD.out.2.2.2.2.1.cell 1
      have t0 := HQD.out.2.2.2.2.1.frozen 0
      have t1 := HQD.out.2.2.2.2.1.frozen 1
      have hgg : g2 ≠ gf := by have := HQD.out.1; omega
      go_wp2_with fail
      refine bodyPost_ret (results_df rfl _ _ g2 gf _ _ _ _ _ _ _ rfl (HEND.out _ _ _ _ _ _ _).1 rfl (HEND.out _ _ _ _ _ _ _).2.1) rfl ?_
      rw [HRE.out]
      exact (HEND.out _ _ _ _ _ _ _).2.2
    · have hpi : ¬ (p : Int) < (S.size : Int) := by omega
      obtain ⟨hz1, hz2⟩ := hc2 hp
      obtain ⟨z, hz⟩ : ∃ z, z = checkD d := ⟨_, rfl⟩
      rw [← hz] at hz1 hz2 HCK1
      obtain ⟨v0, v1, v2, v3, v4⟩ := HR5.out _ (Below.refl _ _)
      by_cases h0 : z = 0
      · have HRE := hide (hz2 h0)
        subst h0
        clear hz1 hz2 hz hc1 hc2 hp hf HPC1 HFF
        go_wp2_with fail
        refine (HCK1.out _ HPZ5.out.parts).mono ?_; rintro e w6 ⟨rfl, hB6⟩
        have HQ6 := hide (HQ5.out.below hB6)
        have HPZ6 := hide (pz_below HPZ5.out hB6)
        have HV6 := hide (HR5.out _ hB6)
        clear hB6 HQ5 HPZ5 HCK1 q0 q1 q2 q3 v0 v1 v2 v3 v4
        obtain ⟨q0, q1, q2, q3⟩ := HQ6.out.2.2.2.2.2.cells
        obtain ⟨v0, v1, v2, v3, v4⟩ := HV6.out
        have HEND := hide fun x0 x1 x2 x3 x4 y0 y1 => parse_end (r := (d, (0, 0))) HQ6.out HPZ6.out x0 x1 x2 x3 x4 y0 y1
        obtain ⟨r0, r1, r2, r3, r4⟩ := row5 HQ6.out.2.2.2.1
        have f0 := HQ6.out.2.2.2.1.frozen 0
        have f1 := HQ6.out.2.2.2.1.frozen 1
        have f2 := HQ6.out.2.2.2.1.frozen 2
        have f3 := HQ6.out.2.2.2.1.frozen 3
        have f4 := HQ6.out.2.2.2.1.frozen 4
        have s0 : w6.cell? ⟨gf, 0, none⟩ = some (.int .i64 0) := HQ6.out.2.2.2.2.1.cell 0
        have s1 : w6.cell? ⟨gf, 1, none⟩ = some (.int .i64 0) := HQ6.out.2.2.2.2.1.cell 1
        have t0 := HQ6.out.2.2.2.2.1.frozen 0
        have t1 := HQ6.out.2.2.2.2.1.frozen 1
        have hgg : g2 ≠ gf := by have := HQ6.out.1; omega
        go_wp2_with fail
        refine bodyPost_ret (results_df rfl _ _ g2 gf _ _ _ _ _ _ _ rfl (HEND.out _ _ _ _ _ _ _).1 rfl (HEND.out _ _ _ _ _ _ _).2.1) rfl ?_
        rw [HRE.out]
        have hfin := fun x0 x1 x2 x3 x4 y0 y1 => (HEND.out x0 x1 x2 x3 x4 y0 y1).2.2
        unfold datV datCs at hfin
        rw [← HNL.out, ← HNM.out] at hfin
        exact hfin _ _ _ _ _ _ _
      · have HRE := hide (hz1 h0)
        have hz0 : (z != 0) = true := by simpa using h0
        have HF1 := hide fun V (h : Rdr V gr S p (0, 0)) => HFF.out 9 0 gr p (0, 0) V h
        rw [show keepF (0, 0) (9, 0) = (9, 0) from if_pos rfl] at HF1
        clear hz1 hz2 hz hc1 hc2 hp hf HPC1 HFF h0
        go_wp2_with fail
        refine (HCK1.out _ HPZ5.out.parts).mono ?_; rintro e w7 ⟨rfl, hB6⟩
        have HQ7 := hide (HQ5.out.below hB6)
        clear hB6 HQ5 HPZ5 HCK1 q0 q1 q2 q3 v0 v1 v2 v3 v4
        go_wp2_with fail
        refine (HF1.out _ HQ7.out.2.2.2.2.2).mono ?_; rintro e w6 ⟨rfl, hr6, hx6⟩
        have HQ6 := hide (HQ7.out.px hx6 hr6)
        clear hr6 hx6 HQ7 HF1
        obtain ⟨q0, q1, q2, q3⟩ := HQ6.out.2.2.2.2.2.cells
        obtain ⟨wd, hwd⟩ : ∃ W, W = w6.drew := ⟨_, rfl⟩
        have HQD := hide (show QSt w g2 gf gr S p (9, 0) wd by rw [hwd]; exact HQ6.out.below (Below.refl _ _).drew)
        have HWD := Lib.hid hwd
        clear hwd
        go_upto_region 10 with fail
        refine region_two 6 (fun W => W.cell? ⟨gr, 2, none⟩ = some (.int .i64 9) ∧ W.cell? ⟨gr, 3, none⟩ = some (.int .i64 0)) (by kernel_rfl) (by kernel_rfl) (by rw [← HWD.out]; exact ⟨HQD.out.2.2.2.2.2.cells.2.2.1, HQD.out.2.2.2.2.2.cells.2.2.2⟩) (fun hH => ?_)
        rw [← HWD.out] at hH ⊢
        clear HWD q0 q1 q2 q3
        simp only [List.take_succ_cons, List.take_zero]
        refine takeH (i := 0) (v := ?_) rfl (by kernel_rfl) (by kernel_rfl) (by kernel_rfl) (fun _ _ _ h => h) (Or.inl ⟨by rfl, ?_⟩) hH ?_
        rotate_left
        · (intro w hSw; (try dsimp only at hSw); go_simp; try with_reducible rfl)
        simp only [Act.put, List.setIfInBounds_toArray, List.set_cons_zero, List.set_cons_succ]
        refine takeH (i := 1) (v := ?_) rfl (by kernel_rfl) (by kernel_rfl) (by kernel_rfl) (fun _ _ _ h => h) (Or.inl ⟨by rfl, ?_⟩) hH ?_
        rotate_left
        · (intro w hSw; (try dsimp only at hSw); go_simp; try with_reducible rfl)
        simp only [Act.put, List.setIfInBounds_toArray, List.set_cons_zero, List.set_cons_succ]
        refine takeH (i := 2) (v := ?_) rfl (by kernel_rfl) (by kernel_rfl) (by kernel_rfl) (fun _ _ _ h => h) (Or.inl ⟨by rfl, ?_⟩) hH ?_
        rotate_left
        · (intro w hSw; (try dsimp only at hSw); go_simp; try with_reducible rfl)
        simp only [Act.put, List.setIfInBounds_toArray, List.set_cons_zero, List.set_cons_succ]
        refine takeH (i := 3) (v := ?_) rfl (by kernel_rfl) (by kernel_rfl) (by kernel_rfl) (fun _ _ _ h => h) (Or.inl ⟨by rfl, ?_⟩) hH ?_
        rotate_left
        · (intro w hSw; (try dsimp only at hSw); go_simp; try with_reducible rfl)
        simp only [Act.put, List.setIfInBounds_toArray, List.set_cons_zero, List.set_cons_succ]
        refine takeH (i := 4) (v := ?_) rfl (by kernel_rfl) (by kernel_rfl) (by kernel_rfl) (fun _ _ _ h => h) (Or.inl ⟨by rfl, ?_⟩) hH ?_
        rotate_left
        · (intro w hSw; (try dsimp only at hSw); go_simp; try with_reducible rfl)
        simp only [Act.put, List.setIfInBounds_toArray, List.set_cons_zero, List.set_cons_succ]
        have HEND := hide fun x0 x1 x2 x3 x4 y0 y1 => parse_end (r := (zeroD, (9, 0))) HQD.out (HZP.out (gr + 1) wd) x0 x1 x2 x3 x4 y0 y1
        obtain ⟨r0, r1, r2, r3, r4⟩ := row5 HQD.out.2.2.2.1
        have f0 := HQD.out.2.2.2.1.frozen 0
        have f1 := HQD.out.2.2.2.1.frozen 1
        have f2 := HQD.out.2.2.2.1.frozen 2
        have f3 := HQD.out.2.2.2.1.frozen 3
        have f4 := HQD.out.2.2.2.1.frozen 4
        refine oneH (i := 5) rfl (by kernel_rfl) (fun K hK => ?_)
        go_simp
        refine hK.out _ _ (show (set5 wd g2 _ _ _ _ _).cell? _ = _ ∧ (set5 wd g2 _ _ _ _ _).cell? _ = _ from And.intro (rdr_far5 HQD.out.2.2.2.2.2 (by have := HQD.out.1; omega) _ _ _ _ _).cells.2.2.1 (rdr_far5 HQD.out.2.2.2.2.2 (by have := HQD.out.1; omega) _ _ _ _ _).cells.2.2.2) (fun hH => ?_)
        clear hK K hH
        refine wpAnyH_done (by kernel_rfl) ?_ _
        unfold TailPost
        simp only [List.drop_succ_cons, List.drop_zero]
        have s0 : wd.cell? ⟨gf, 0, none⟩ = some (.int .i64 0) := HQD.out.2.2.2.2.1.cell 0
        have s1 : wd.cell? ⟨gf, 1, none⟩ = some (.int .i64 0) := HQD.out.2.2.2.2.1.cell 1
        have t0 := HQD.out.2.2.2.2.1.frozen 0
        have t1 := HQD.out.2.2.2.2.1.frozen 1
        have hgg : g2 ≠ gf := by have := HQD.out.1; omega
        go_wp2_with fail
        refine bodyPost_ret (results_df rfl _ _ g2 gf _ _ _ _ _ _ _ rfl (HEND.out _ _ _ _ _ _ _).1 rfl (HEND.out _ _ _ _ _ _ _).2.1) rfl ?_
        rw [HRE.out]
        exact (HEND.out _ _ _ _ _ _ _).2.2
  · have HRE := hide (HPC1.out.1 hf)
    have HF1 := hide fun V (h : Rdr V gr S p f) => HFF.out 19 (p : Int) gr p f V h
    rw [show keepF f (19, (p : Int)) = f from if_neg hf] at HF1
    obtain ⟨fe, fa⟩ := f
    have hfe : (fe == 0) = false := by simpa using hf
    have hfn : (fe != 0) = true := by simpa using hf
    clear hf HPC1 HFF HCK1
    by_cases hp : p < S.size
    · have hpi : (p : Int) < (S.size : Int) := by omega
      go_wp2_with fail
      refine (HF1.out _ HQ5.out.2.2.2.2.2).mono ?_; rintro e w6 ⟨rfl, hr6, hx6⟩
      have HQ6 := hide (HQ5.out.px hx6 hr6)
      clear hr6 hx6 HQ5 HF1 q0 q1 q2 q3
      obtain ⟨q0, q1, q2, q3⟩ := HQ6.out.2.2.2.2.2.cells
      obtain ⟨wd, hwd⟩ : ∃ W, W = w6.drew := ⟨_, rfl⟩
      have HQD := hide (show QSt w g2 gf gr S p (fe, fa) wd by rw [hwd]; exact HQ6.out.below (Below.refl _ _).drew)
      have HWD := Lib.hid hwd
      clear hwd
      go_upto_region 10 with fail
      refine region_two 6 (fun W => W.cell? ⟨gr, 2, none⟩ = some (.int .i64 fe) ∧ W.cell? ⟨gr, 3, none⟩ = some (.int .i64 fa)) (by kernel_rfl) (by kernel_rfl) (by rw [← HWD.out]; exact ⟨HQD.out.2.2.2.2.2.cells.2.2.1, HQD.out.2.2.2.2.2.cells.2.2.2⟩) (fun hH => ?_)
      rw [← HWD.out] at hH ⊢
      clear HWD q0 q1 q2 q3
      simp only [List.take_succ_cons, List.take_zero]
      refine takeH (i := 0) (v := ?_) rfl (by kernel_rfl) (by kernel_rfl) (by kernel_rfl) (fun _ _ _ h => h) (Or.inl ⟨by rfl, ?_⟩) hH ?_
      rotate_left
      · (intro w hSw; (try dsimp only at hSw); go_simp; try with_reducible rfl)
      simp only [Act.put, List.setIfInBounds_toArray, List.set_cons_zero, List.set_cons_succ]
      refine takeH (i := 1) (v := ?_) rfl (by kernel_rfl) (by kernel_rfl) (by kernel_rfl) (fun _ _ _ h => h) (Or.inl ⟨by rfl, ?_⟩) hH ?_
      rotate_left
      · (intro w hSw; (try dsimp only at hSw); go_simp; try with_reducible rfl)
      simp only [Act.put, List.setIfInBounds_toArray, List.set_cons_zero, List.set_cons_succ]
      refine takeH (i := 2) (v := ?_) rfl (by kernel_rfl) (by kernel_rfl) (by kernel_rfl) (fun _ _ _ h => h) (Or.inl ⟨by rfl, ?_⟩) hH ?_
      rotate_left
      · (intro w hSw; (try dsimp only at hSw); go_simp; try with_reducible rfl)
      simp only [Act.put, List.setIfInBounds_toArray, List.set_cons_zero, List.set_cons_succ]
      refine takeH (i := 3) (v := ?_) rfl (by kernel_rfl) (by kernel_rfl) (by kernel_rfl) (fun _ _ _ h => h) (Or.inl ⟨by rfl, ?_⟩) hH ?_
      rotate_left
      · (intro w hSw; (try dsimp only at hSw); go_simp; try with_reducible rfl)
      simp only [Act.put, List.setIfInBounds_toArray, List.set_cons_zero, List.set_cons_succ]
      refine takeH (i := 4) (v := ?_) rfl (by kernel_rfl) (by kernel_rfl) (by kernel_rfl) (fun _ _ _ h => h) (Or.inl ⟨by rfl, ?_⟩) hH ?_
      rotate_left
      · (intro w hSw; (try dsimp only at hSw); go_simp; try with_reducible rfl)
      simp only [Act.put, List.setIfInBounds_toArray, List.set_cons_zero, List.set_cons_succ]
      have HEND := hide fun x0 x1 x2 x3 x4 y0 y1 => parse_end (r := (zeroD, (fe, fa))) HQD.out (HZP.out (gr + 1) wd) x0 x1 x2 x3 x4 y0 y1
      obtain ⟨r0, r1, r2, r3, r4⟩ := row5 HQD.out.2.2.2.1
      have f0 := HQD.out.2.2.2.1.frozen 0
      have f1 := HQD.out.2.2.2.1.frozen 1
      have f2 := HQD.out.2.2.2.1.frozen 2
      have f3 := HQD.out.2.2.2.1.frozen 3
      have f4 := HQD.out.2.2.2.1.frozen 4
      refine oneH (i := 5) rfl (by kernel_rfl) (fun K hK => ?_)
      go_simp
      refine hK.out _ _ (show (set5 wd g2 _ _ _ _ _).cell? _ = _ ∧ (set5 wd g2 _ _ _ _ _).cell? _ = _ from And.intro (rdr_far5 HQD.out.2.2.2.2.2 (by have := HQD.out.1; omega) _ _ _ _ _).cells.2.2.1 (rdr_far5 HQD.out.2.2.2.2.2 (by have := HQD.out.1; omega) _ _ _ _ _).cells.2.2.2) (fun hH => ?_)
      clear hK K hH
      refine wpAnyH_done (by kernel_rfl) ?_ _
      unfold TailPost
      simp only [List.drop_succ_cons, List.drop_zero]
      have s0 : wd.cell? ⟨gf, 0, none⟩ = some (.int .i64 0) := HQD.out.2.2.2.2.1.cell 0
      have s1 : wd.cell? ⟨gf, 1, none⟩ = some (.int .i64 0) := HQD.out.2.2.2.2.1.cell 1
      have t0 := HQD.out.2.2.2.2.1.frozen 0
      have t1 := HQD.out.2.2.2.2.1.frozen 1
      have hgg : g2 ≠ gf := by have := HQD.out.1; omega
      go_wp2_with fail
      refine bodyPost_ret (results_df rfl _ _ g2 gf _ _ _ _ _ _ _ rfl (HEND.out _ _ _ _ _ _ _).1 rfl (HEND.out _ _ _ _ _ _ _).2.1) rfl ?_
      rw [HRE.out]
      exact (HEND.out _ _ _ _ _ _ _).2.2
    · have hpi : ¬ (p : Int) < (S.size : Int) := by omega
      obtain ⟨wd, hwd⟩ : ∃ W, W = w5.drew := ⟨_, rfl⟩
      have HQD := hide (show QSt w g2 gf gr S p (fe, fa) wd by rw [hwd]; exact HQ5.out.below (Below.refl _ _).drew)
      have HWD := Lib.hid hwd
      clear hwd
      go_upto_region 10 with fail
      refine region_two 6 (fun W => W.cell? ⟨gr, 2, none⟩ = some (.int .i64 fe) ∧ W.cell? ⟨gr, 3, none⟩ = some (.int .i64 fa)) (by kernel_rfl) (by kernel_rfl) (by rw [← HWD.out]; exact ⟨HQD.out.2.2.2.2.2.cells.2.2.1, HQD.out.2.2.2.2.2.cells.2.2.2⟩) (fun hH => ?_)
      rw [← HWD.out] at hH ⊢
      clear HWD q0 q1 q2 q3
      simp only [List.take_succ_cons, List.take_zero]
      refine takeH (i := 0) (v := ?_) rfl (by kernel_rfl) (by kernel_rfl) (by kernel_rfl) (fun _ _ _ h => h) (Or.inl ⟨by rfl, ?_⟩) hH ?_
      rotate_left
      · (intro w hSw; (try dsimp only at hSw); go_simp; try with_reducible rfl)
      simp only [Act.put, List.setIfInBounds_toArray, List.set_cons_zero, List.set_cons_succ]
      refine takeH (i := 1) (v := ?_) rfl (by kernel_rfl) (by kernel_rfl) (by kernel_rfl) (fun _ _ _ h => h) (Or.inl ⟨by rfl, ?_⟩) hH ?_
      rotate_left
      · (intro w hSw; (try dsimp only at hSw); go_simp; try with_reducible rfl)
      simp only [Act.put, List.setIfInBounds_toArray, List.set_cons_zero, List.set_cons_succ]
      refine takeH (i := 2) (v := ?_) rfl (by kernel_rfl) (by kernel_rfl) (by kernel_rfl) (fun _ _ _ h => h) (Or.inl ⟨by rfl, ?_⟩) hH ?_
      rotate_left
      · (intro w hSw; (try dsimp only at hSw); go_simp; try with_reducible rfl)
      simp only [Act.put, List.setIfInBounds_toArray, List.set_cons_zero, List.set_cons_succ]
      refine takeH (i := 3) (v := ?_) rfl (by kernel_rfl) (by kernel_rfl) (by kernel_rfl) (fun _ _ _ h => h) (Or.inl ⟨by rfl, ?_⟩) hH ?_
      rotate_left
      · (intro w hSw; (try dsimp only at hSw); go_simp; try with_reducible rfl)
      simp only [Act.put, List.setIfInBounds_toArray, List.set_cons_zero, List.set_cons_succ]
      refine takeH (i := 4) (v := ?_) rfl (by kernel_rfl) (by kernel_rfl) (by kernel_rfl) (fun _ _ _ h => h) (Or.inl ⟨by rfl, ?_⟩) hH ?_
      rotate_left
      · (intro w hSw; (try dsimp only at hSw); go_simp; try with_reducible rfl)
      simp only [Act.put, List.setIfInBounds_toArray, List.set_cons_zero, List.set_cons_succ]
      have HEND := hide fun x0 x1 x2 x3 x4 y0 y1 => parse_end (r := (zeroD, (fe, fa))) HQD.out (HZP.out (gr + 1) wd) x0 x1 x2 x3 x4 y0 y1
      obtain ⟨r0, r1, r2, r3, r4⟩ := row5 HQD.out.2.2.2.1
      have f0 := HQD.out.2.2.2.1.frozen 0
      have f1 := HQD.out.2.2.2.1.frozen 1
      have f2 := HQD.out.2.2.2.1.frozen 2
      have f3 := HQD.out.2.2.2.1.frozen 3
      have f4 := HQD.out.2.2.2.1.frozen 4
      refine oneH (i := 5) rfl (by kernel_rfl) (fun K hK => ?_)
      go_simp
      refine hK.out _ _ (show (set5 wd g2 _ _ _ _ _).cell? _ = _ ∧ (set5 wd g2 _ _ _ _ _).cell? _ = _ from And.intro (rdr_far5 HQD.out.2.2.2.2.2 (by have := HQD.out.1; omega) _ _ _ _ _).cells.2.2.1 (rdr_far5 HQD.out.2.2.2.2.2 (by have := HQD.out.1; omega) _ _ _ _ _).cells.2.2.2) (fun hH => ?_)
      clear hK K hH
      refine wpAnyH_done (by kernel_rfl) ?_ _
      unfold TailPost
      simp only [List.drop_succ_cons, List.drop_zero]
      have s0 : wd.cell? ⟨gf, 0, none⟩ = some (.int .i64 0) := HQD.out.2.2.2.2.1.cell 0
      have s1 : wd.cell? ⟨gf, 1, none⟩ = some (.int .i64 0) := HQD.out.2.2.2.2.1.cell 1
      have t0 := HQD.out.2.2.2.2.1.frozen 0
      have t1 := HQD.out.2.2.2.2.1.frozen 1
      have hgg : g2 ≠ gf := by have := HQD.out.1; omega
      go_wp2_with fail
      refine bodyPost_ret (results_df rfl _ _ g2 gf _ _ _ _ _ _ _ rfl (HEND.out _ _ _ _ _ _ _).1 rfl (HEND.out _ _ _ _ _ _ _).2.1) rfl ?_
      rw [HRE.out]
      exact (HEND.out _ _ _ _ _ _ _).2.2
end Go.Proofs.YtmmbbndoimleaaaGreatDoor

/- The law of depth. -/
namespace Go.Proofs.YtmmbbndoimleaaaGreatDoor
open Go.RowKit

/-- A row of bytes in a block of its own. -/
abbrev RowY (w : World) (g : Nat) (l : List UInt8) : Prop := Row w g 5 (byL l)
theorem RowY.made (w : World) (n : Nat) : RowY (w.alloc (.cells (madeCells #[.int .u8 0] n) 5)) w.heap.size (List.replicate n 0) := by
  have := Row.made w 5 (.int .u8 0) n
  have e : byL (List.replicate n 0) = List.replicate n (.int .u8 0) := by unfold byL; rw [List.map_replicate]; rfl
  unfold RowY; rw [e]; exact this
theorem RowY.put {w : World} {g : Nat} {l : List UInt8} (h : RowY w g l) (i : Nat) (b : UInt8) : RowY (w.setCell ⟨g, i, none⟩ (.int .u8 (b.toNat : Int))) g (l.set i b) := by
  have := Row.set_ h i (.int .u8 (b.toNat : Int))
  have e : byL (l.set i b) = (byL l).set i (.int .u8 (b.toNat : Int)) := by unfold byL; rw [List.map_set]
  unfold RowY; rw [e]; exact this
theorem RowY.at_ {w : World} {g : Nat} {l : List UInt8} (h : RowY w g l) {i : Nat} (hi : i < l.length) : w.cell? ⟨g, i, none⟩ = some (.int .u8 (l[i].toNat : Int)) := by
  have := Row.cell h i
  unfold byL at this
  rw [List.getElem?_map, List.getElem?_eq_getElem hi] at this
  exact this
theorem RowY.str {w : World} {g : Nat} {l : List UInt8} (h : RowY w g l) (n cap : Nat) (hn : n ≤ l.length) : (convert 73 9 (.slice (some ⟨g, 0, none⟩) n cap)).run Tryz.prog w = .ok (.string ⟨(l.take n).toArray⟩) w := by
  have hl : (l.take n).length = n := by rw [List.length_take]; omega
  have := run_convert_bytes_back (P := Tryz.prog) w 73 9 5 ⟨g, 0, none⟩ cap (l.take n) Tryz.underlying73 Tryz.underlying5 Tryz.underlying9 (fun j hj => by
    rw [add_head, h.at_ (i := j) (by omega), List.getElem_take])
  rw [hl] at this
  exact this
/-- What a law answers. -/
def JFine (w : World) (e : Ending) (w' : World) : Prop := e = .returned (.bool true) ∧ Below w.heap.size w w'

end Go.Proofs.YtmmbbndoimleaaaGreatDoor

/- The law of parsing. -/
namespace Go.Proofs.YtmmbbndoimleaaaGreatDoor
open Go.RowKit

set_option maxRecDepth 20000 in
set_option maxHeartbeats 2000000 in
theorem Parses_law (S : ByteArray) (w : World) (ht : Tab w) :
    Calls Tryz.prog 4 #[.string S] w (JFine w) := by
  have HE := hide fun W (h : Below w.heap.size w W) => jexample_run W (tab_below ht h)
  clear ht
  by_cases hn : 400 < S.size
  · have g0 : (400 : Int) < (S.size : Int) := by omega
    go_enter Tryz.func4, Tryz.ntmps4
    go_wp2_with fail
    refine (HE.out _ (Below.refl _ _)).mono ?_; rintro e w1 ⟨rfl, hB1⟩
    go_wp2_with fail
    go_ret
    exact ⟨rfl, hB1⟩
  have g0 : ¬ (400 : Int) < (S.size : Int) := by omega
  have HP1 := hide fun W => Parse_run S W
  have HP2 := hide fun W => rParse_run S W (by omega)
  obtain ⟨p1, hp1⟩ : ∃ p, p = parseF S := ⟨_, rfl⟩
  rw [← hp1] at HP1 HP2
  obtain ⟨r1, e1, a1⟩ := p1
  obtain ⟨m, hm⟩ : ∃ m, m = S.size + 1 := ⟨_, rfl⟩
  rw [← hm] at HP1 HP2
  unfold ParsePost datV datCs at HP1 HP2
  simp only at HP1 HP2
  have HSM0 := hide fun W b1 q1 b1' q1' b3 q3 b3' q3' (h1 : Parts W W.heap.size m r1 b1 q1 b1' q1') (h2 : Parts W W.heap.size m r1 b3 q3 b3' q3') => (show Calls Tryz.prog 15 #[datV r1 b1 q1 b1' q1', datV r1 b3 q3 b3' q3'] W fun e w' => e = .returned (.bool true) ∧ Below W.heap.size W w' from by
    have := same_run m r1 b1 q1 b1' q1' r1 b3 q3 b3' q3' W h1 h2
    rw [same_self] at this
    exact this)
  unfold datV datCs at HSM0
  obtain ⟨nl, hnl⟩ : ∃ N, N = (iD r1).length := ⟨_, rfl⟩
  obtain ⟨nm, hnm⟩ : ∃ N, N = (mD r1).length := ⟨_, rfl⟩
  rw [← hnl, ← hnm] at HP1 HP2 HSM0
  clear hp1 hn hm hnl hnm
  go_enter Tryz.func4, Tryz.ntmps4
  go_wp2_with fail
  refine (HP1.out _).mono ?_; rintro e w1 ⟨b1, q1, b1', q1', rfl, hP1, hB1⟩
  have HB1 := hide hB1
  have HQ1 := hide hP1.parts
  clear hP1 hB1 HP1
  go_upto_region 4 with fail
  obtain ⟨w2, g2, f2, k1, k2, k3, hB2, hR2, hF2⟩ := boxDF w1 (kD r1) (nD r1) (sD r1) (.slice b1 nl q1) (.slice b1' nm q1') e1 a1
  rw [k1, k2, show g2 + 1 = f2 by omega]
  have HB2 := hide (HB1.out.trans (hB2.mono HB1.out.size))
  have HR2 := hide (And.intro hR2 hF2)
  have HQ2 := hide (HQ1.out.turn (Same.of_below hB2) hB2.size)
  clear k1 k2 k3 hB2 hR2 hF2 HB1 HQ1
  go_wp2_with fail
  refine (HP2.out _).mono ?_; rintro e w3 ⟨b3, q3, b3', q3', rfl, hP3, hB3⟩
  have HB3 := hide (HB2.out.trans (hB3.mono HB2.out.size))
  have HR3 := hide (And.intro (HR2.out.1.below hB3) (HR2.out.2.below hB3))
  have HQ3 := hide (And.intro (HQ2.out.turn (Same.of_below hB3) hB3.size) hP3.parts)
  clear hP3 hB3 HP2 HB2 HR2 HQ2
  go_upto_region 5 with fail
  obtain ⟨w4, g4, f4, k1, k2, k3, hB4, hR4, hF4⟩ := boxDF w3 (kD r1) (nD r1) (sD r1) (.slice b3 nl q3) (.slice b3' nm q3') e1 a1
  rw [k1, k2, show g4 + 1 = f4 by omega]
  have HB4 := hide (HB3.out.trans (hB4.mono HB3.out.size))
  have HQ4 := hide (And.intro (HQ3.out.1.turn (Same.of_below hB4) hB4.size) (HQ3.out.2.turn (Same.of_below hB4) hB4.size))
  obtain ⟨u0, u1, u2, u3, u4⟩ := row5 (HR3.out.1.below hB4)
  obtain ⟨v0, v1, v2, v3, v4⟩ := row5 hR4
  have y0 : w4.cell? ⟨f2, 0, none⟩ = some (.int .i64 e1) := (HR3.out.2.below hB4).cell 0
  have y1 : w4.cell? ⟨f2, 1, none⟩ = some (.int .i64 a1) := (HR3.out.2.below hB4).cell 1
  have y2 : w4.cell? ⟨f4, 0, none⟩ = some (.int .i64 e1) := hF4.cell 0
  have y3 : w4.cell? ⟨f4, 1, none⟩ = some (.int .i64 a1) := hF4.cell 1
  have b0' : (e1 == e1) = true := by simp
  have b1x : (a1 == a1) = true := by simp
  clear k1 k2 k3 hB4 hR4 hF4 HB3 HR3 HQ3
  go_wp2_with fail
  refine (HSM0.out _ _ _ _ _ _ _ _ _ HQ4.out.1 HQ4.out.2).mono ?_; rintro e w5 ⟨rfl, hB5⟩
  have HB5 := hide (HB4.out.trans (hB5.mono HB4.out.size))
  clear hB5 HQ4 HSM0 u0 u1 u2 u3 u4 v0 v1 v2 v3 v4 y0 y1 y2 y3 HB4
  go_wp2_with fail
  refine (HE.out _ HB5.out).mono ?_; rintro e w6 ⟨rfl, hB6⟩
  have HB6 := hide (HB5.out.trans (hB6.mono HB5.out.size))
  clear hB6
  go_wp2_with fail
  go_ret
  exact ⟨rfl, HB6.out⟩
end Go.Proofs.YtmmbbndoimleaaaGreatDoor
