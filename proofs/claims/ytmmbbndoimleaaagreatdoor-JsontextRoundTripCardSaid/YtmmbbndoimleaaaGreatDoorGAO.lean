/- text of the reference, blanks false; text of the reference, blanks true. -/
import Derived.Test.YtmmbbndoimleaaaGreatDoorGAN

/- text of the reference, blanks false. -/
namespace Go.Proofs.YtmmbbndoimleaaaGreatDoor
open Go.RowKit

set_option maxRecDepth 100000 in
set_option maxHeartbeats 4000000 in
theorem rtext37_false : ∀ (m r lv : Nat) (d : Dt) (A : Option Addr) (c : Nat) (A' : Option Addr) (c' : Nat) (w : World), lv + r ≤ 16 → checkF r d = 0 → Parts w w.heap.size m d A c A' c' → jbF m d ≤ 1000000000 →
    Calls Tryz.prog 21 #[datV d A c A' c', .int .i64 (-1)] w fun e w' => e = .returned (.string (jtF false m lv d)) ∧ Below w.heap.size w w' := by
  intro m
  induction m with
  | zero => intro r lv d A c A' c' w _ _ hp _; exact hp.elim
  | succ m ih =>
    intro r lv d A c A' c' w hlv hcz hp hbd
    have hpt := hp
    obtain ⟨r', rfl, hown, hkz⟩ := valid_kid hcz
    obtain ⟨⟨hk1, hk6⟩, _, _, hiN, hmN, _⟩ := valid_fields hown
    have htb := jparts_le false m lv (by omega) (jtF false m (lv + 1)) d (fun x hx => jtF_le false m r' (lv + 1) x (by omega) (hkz x hx))
    have hsz : (sD d).size ≤ 166700000 := by omega
    obtain ⟨hb1, hb2⟩ := jbF_kids (m := m) (d := d)
    obtain ⟨⟨h1, h2, h3, h4⟩, hI, hM⟩ := hp
    have hm := maxLen_le h2; have hm' := maxLen_le h4
    have hlv16 : lv ≤ 16 := by omega
    have hcast : ((lv + 1 : Nat) : Int) = (lv : Int) + 1 := by omega
    have hwrap : IntKind.i64.wrap ((lv : Int) + 1) = (lv : Int) + 1 := IntWalk.i64_in _ (by omega)

    obtain ⟨res, hres⟩ : ∃ r, r = jtF false (m + 1) lv d := ⟨_, rfl⟩
    rw [← hres]
    have HLN := hide fun W => rline_false (lv + 1)  W
    have HLN0 := hide fun W => rline_false lv  W

    by_cases k4 : kD d = 4
    · have HZ := hide (show res = jqB (sD d) by rw [hres, jt_str k4])
      have HQ := hide fun W => rquote_run (sD d) hsz W
      unfold datV datCs
      rw [k4]
      obtain ⟨n, hn'⟩ : ∃ k, k = nD d := ⟨_, rfl⟩
      obtain ⟨s, hs⟩ : ∃ k, k = sD d := ⟨_, rfl⟩
      obtain ⟨x, hx⟩ : ∃ k, k = (iD d).length := ⟨_, rfl⟩
      obtain ⟨y, hy⟩ : ∃ k, k = (mD d).length := ⟨_, rfl⟩
      rw [← hn', ← hs, ← hx, ← hy]
      rw [← hs] at HQ HZ
      clear hn' hs hx hy hI hM hb1 hb2 htb hbd hpt hiN hmN hkz hown hcz hres h1 h2 h3 h4 k4 hk1 hk6 ih HLN HLN0 hsz hm hm'
      go_enter Tryz.func21, Tryz.ntmps21
      go_upto_region 1 with fail
      obtain ⟨w1, g, e1, e2, hBL, c0, c1, c2, c3, c4, hROW⟩ := boxD w 4 n s (.slice A x c) (.slice A' y c')
      rw [e1, e2]
      have HBL := hide hBL
      clear e1 e2 hBL hROW
      go_wp2_with fail
      refine (HQ.out _).mono ?_; rintro e w4 ⟨rfl, hB4⟩
      have HB4 := hide (HBL.out.trans (hB4.mono HBL.out.size))
      clear hB4
      go_wp2_with fail
      go_ret
      exact ⟨ret_str HZ.out.symm, HB4.out⟩
    by_cases k123 : kD d = 1 ∨ kD d = 2 ∨ kD d = 3
    · have HZ := hide (show res = textD (m + 1) d by rw [hres, jt_leaf k123])
      have htb2 : tbF (m + 1) d ≤ 1000000000 := by omega
      have HQ := hide fun W (hB : Below w.heap.size w W) => refText_run (m + 1) d A c A' c' W (hpt.turn (Same.of_below hB) hB.size) htb2
      unfold datV datCs at HQ
      unfold datV datCs
      obtain ⟨k, hk⟩ : ∃ k, k = kD d := ⟨_, rfl⟩
      obtain ⟨n, hn'⟩ : ∃ k, k = nD d := ⟨_, rfl⟩
      obtain ⟨s, hs⟩ : ∃ k, k = sD d := ⟨_, rfl⟩
      obtain ⟨x, hx⟩ : ∃ k, k = (iD d).length := ⟨_, rfl⟩
      obtain ⟨y, hy⟩ : ∃ k, k = (mD d).length := ⟨_, rfl⟩
      rw [← hk, ← hn', ← hs, ← hx, ← hy] at HQ
      rw [← hk, ← hn', ← hs, ← hx, ← hy]
      obtain ⟨T, hT⟩ : ∃ T, T = textD (m + 1) d := ⟨_, rfl⟩
      obtain ⟨z, hz⟩ : ∃ T, T = checkD d := ⟨_, rfl⟩
      rw [← hT, ← hz] at HQ
      rw [← hT] at HZ
      rw [← hk] at k123
      clear hk hn' hs hx hy hT hz hI hM hb1 hb2 htb htb2 hbd hpt hiN hmN hkz hown hcz hres h1 h2 h3 h4 k4 hk1 hk6 ih HLN HLN0 hsz hm hm'
      rcases k123 with rfl | rfl | rfl
      all_goals
        go_enter Tryz.func21, Tryz.ntmps21
        go_upto_region 1 with fail
        obtain ⟨w1, g, e1, e2, hBL, c0, c1, c2, c3, c4, hROW⟩ := boxD w _ n s (.slice A x c) (.slice A' y c')
        rw [e1, e2]
        have HBL := hide hBL
        clear e1 e2 hBL hROW
        go_wp2_with fail
        refine (HQ.out _ HBL.out).mono ?_; rintro e w4 ⟨rfl, hB4⟩
        have HB4 := hide (HBL.out.trans (hB4.mono HBL.out.size))
        clear hB4
        go_wp2_with fail
        go_ret
        exact ⟨ret_str HZ.out.symm, HB4.out⟩
    have HWR := hide (hres.trans (jt_wrap (by omega)))
    by_cases k5 : kD d = 5
    · have hm0 : mD d = [] := by rcases hmN with h | h; omega; exact h
      have hi2 : (iD d).length ≤ 1000000000 := by
        have := sumN_len (fun x => 100 + jbF m x) (fun x => by omega) (iD d)
        rw [jbF] at hbd; omega
      have HI := hide fun i x (h : (iD d)[i]? = some x) => And.intro (hI i x h) (And.intro (show jbF m x ≤ 1000000000 by have := hb1 x (List.mem_of_getElem? h); omega) (And.intro (hkz x (is_kid (List.mem_of_getElem? h))) (jtF_le false m r' (lv + 1) x (by omega) (hkz x (is_kid (List.mem_of_getElem? h))))))
      obtain ⟨L, hL⟩ : ∃ L, L = jparts false lv (jtF false m (lv + 1)) d := ⟨_, rfl⟩
      rw [← hL] at HWR htb
      rw [list_one hm0] at hL
      have HSUM := hide (show sumN (fun x : ByteArray => x.size + 1) L ≤ 1000000000 by have := sum_one (l := L); omega)
      rw [k5] at HWR
      obtain ⟨xs, hxs⟩ : ∃ k, k = iD d := ⟨_, rfl⟩
      unfold datV datCs
      rw [k5, hm0]
      rw [← hxs] at HI h1 hi2 hL
      obtain ⟨n, hn'⟩ : ∃ k, k = nD d := ⟨_, rfl⟩
      obtain ⟨s, hs⟩ : ∃ k, k = sD d := ⟨_, rfl⟩
      obtain ⟨x, hx⟩ : ∃ k, k = xs.length := ⟨_, rfl⟩
      rw [← hn', ← hs, ← hxs, ← hx]
      rw [← hx] at h1 hi2
      rw [show ((([] : List (ByteArray × Dt)).length : Nat)) = 0 from rfl]
      have HLL := hide (show L.length = x by rw [hL, List.length_map, hx])
      have HLA := hide (show ∀ i X, xs[i]? = some X → L[i]? = some (jpartI false lv (jtF false m (lv + 1)) X) from fun i X h => by rw [hL, List.getElem?_map, h]; rfl)
      have HX := Lib.hid hx
      have HJZ := hide (fun i => jpre_size (o := ⟨#[91]⟩) rfl HSUM.out i)
      clear hn' hs hx hxs hL hI hM hb1 hb2 htb hbd hpt hiN hmN hm0 hkz hown hcz hres h2 h3 h4 k4 k123 k5 hk1 hk6 hsz hm'
      go_enter Tryz.func21, Tryz.ntmps21
      go_upto_region 1 with fail
      obtain ⟨w1, g, e1, e2, hBL, c0, c1, c2, c3, c4, hROW⟩ := boxD w 5 n s (.slice A x c) (.slice A' 0 c')
      rw [e1, e2]
      have HC := hide fun W (h : Below w1.heap.size w1 W) => row5 (hROW.below h)
      have HBL := hide hBL
      clear e1 e2 hBL hROW
      go_wp2_with fail
      go_quiet (fail)
      obtain ⟨wq, hwq⟩ : ∃ W, W = w1.drewN nq := ⟨_, rfl⟩
      have HBQ := hide (show Below w1.heap.size w1 wq by rw [hwq]; exact below_drewN (Below.refl _ _) _)
      rw [← hwq]
      clear hwq c0 c1 c2 c3 c4
      obtain ⟨c0, c1, c2, c3, c4⟩ := HC.out _ HBQ.out
      by_cases hx0 : x = 0
      · subst hx0
        have HZ := hide (show res = ⟨#[91]⟩ ++ ⟨#[93]⟩ from HWR.out.trans (wrap_nil HLL.out))
        have HBZ := hide (HBL.out.trans (HBQ.out.mono HBL.out.size))
        clear HI HLA HX HLL HWR HSUM HJZ ih HLN HLN0
        go_wp2_with fail
        go_ret
        exact ⟨ret_str HZ.out.symm, HBZ.out⟩
      have hg1 : ((x : Int) == 0) = false := by simp; omega
      have HZ := hide (show res = jpre ⟨#[91]⟩ L ++ lineB false lv ++ ⟨#[93]⟩ from HWR.out.trans (wrap_cons (by rw [HLL.out]; exact hx0)))
      clear HWR hx0
      go_wp2_with fail
      go_loopw [11, 12] (fun ov iv wr => ∃ (i : Nat) (O : ByteArray), iv = .int .i64 i ∧ ov = .string O ∧ i ≤ x ∧ O.size ≤ 1000000001 ∧ Hid (O = jpre ⟨#[91]⟩ (L.take i)) ∧ Hid (Below w1.heap.size w1 wr)) (fun _ iv _ => x - (intOf iv).toNat)
      case atStart => exact ⟨0, ⟨#[91]⟩, rfl, rfl, Nat.zero_le _, by decide, hide rfl, HBQ⟩
      case round =>
        clear c0 c1 c2 c3 c4 HBQ
        obtain ⟨i, O, rfl, rfl, hi, hO, hI, hB⟩ := hrel
        have hwB := HBL.out.trans (hB.out.mono HBL.out.size)
        by_cases hlt : i < x
        · have hlt' : i < xs.length := by rw [← HX.out]; exact hlt
          obtain ⟨⟨ad, rfl, hb, a, q, a', q', hfive, hpts⟩, htx, hcx, htl⟩ := HI.out i _ (List.getElem?_eq_getElem hlt')
          obtain ⟨X, hX⟩ : ∃ X, X = xs[i] := ⟨_, rfl⟩
          rw [← hX] at hfive hpts htx hcx htl
          have hbb : (ad.add (i * 5)).block < w.heap.size := by rw [block_of_add]; exact hb
          have HFV := hide fun W (h : Below w1.heap.size w1 W) => And.intro (HC.out W h) (hfive.same hbb (Same.of_below (HBL.out.trans (h.mono HBL.out.size))))
          have HCK := hide fun w' (hB' : Below w1.heap.size w1 w') => ih r' (lv + 1) X a q a' q' w' (by omega) hcx (hpts.turn (Same.of_below (HBL.out.trans (hB'.mono HBL.out.size))) (HBL.out.trans (hB'.mono HBL.out.size)).size) htx
          have HXX := hide (show (if 0 < i then O ++ ⟨#[44]⟩ else O) ++ (lineB false (lv + 1) ++ jtF false m (lv + 1) X) = jpre ⟨#[91]⟩ (L.take (i + 1)) by
            rw [take_push (HLA.out i _ (List.getElem?_eq_getElem hlt')), jpre_push, take_len (by rw [HLL.out]; omega), ← hI.out, hX]; rfl)
          unfold datV datCs at HCK
          obtain ⟨T, hT⟩ : ∃ T, T = jtF false m (lv + 1) X := ⟨_, rfl⟩
          obtain ⟨LB, hLB⟩ : ∃ T, T = lineB false (lv + 1) := ⟨_, rfl⟩
          have hls : LB.size ≤ 100 := by rw [hLB]; have := lineB_size false (lv + 1); omega
          rw [← hT] at HCK HXX htl
          rw [← hLB] at HXX
          have HLN1 := hide fun W => (HLN.out W)
          rw [← hLB] at HLN1

          have hT1 : T.size ≤ 1000000000 := by omega
          have HJI := hide (HJZ.out (i + 1))
          obtain ⟨⟨c0, c1, c2, c3, c4⟩, _⟩ := HFV.out _ hB.out
          have hp1 : (0 < i ∧ decide ((i : Int) > 0) = true ∧ O ++ ⟨#[44]⟩ = (if 0 < i then O ++ ⟨#[44]⟩ else O)) ∨ (¬ 0 < i ∧ decide ((i : Int) > 0) = false ∧ O = (if 0 < i then O ++ ⟨#[44]⟩ else O)) := by
            by_cases h : 0 < i
            · exact .inl ⟨h, by simp; omega, by rw [if_pos h]⟩
            · exact .inr ⟨h, by simp; omega, by rw [if_neg h]⟩
          obtain ⟨P, hP⟩ : ∃ P, P = (if 0 < i then O ++ ⟨#[44]⟩ else O) := ⟨_, rfl⟩
          rw [← hP] at hp1 HXX
          have hPs : P.size ≤ 1000000002 := by
            rw [hP]; split
            · rw [bsize_append]; show O.size + 1 ≤ _; omega
            · omega
          have hPL : (P ++ LB).size ≤ 1000000102 := by rw [bsize_append]; omega
          have HYY := hide (show (P ++ LB) ++ T = jpre ⟨#[91]⟩ (L.take (i + 1)) by rw [← HXX.out, ByteArray.append_assoc])
          clear hpts hX hlt' hb hbb hT hLB htx hcx htl hP HXX hI hfive
          rcases hp1 with ⟨_, gi, hPO⟩ | ⟨_, gi, rfl⟩
          · have HPO := Lib.hid hPO
            clear hPO
            go_upto_region 20 with fail
            rw [HPO.out]
            go_wp2_with fail
            refine (HLN1.out _).mono ?_; rintro e w3 ⟨rfl, hB3⟩
            have HB3 := hide (hB.out.trans (hB3.mono hB.out.size))
            clear hB3 hB c0 c1 c2 c3 c4 hwB
            obtain ⟨⟨c0, c1, c2, c3, c4⟩, s0, s1, s2, s3, s4⟩ := HFV.out _ HB3.out
            go_wp2_with fail
            refine (HCK.out _ HB3.out).mono ?_; rintro e w4 ⟨rfl, hB4⟩
            have HB4 := hide (HB3.out.trans (hB4.mono HB3.out.size))
            clear hB4 HCK s0 s1 s2 s3 s4 c0 c1 c2 c3 c4 HB3
            go_wp2_with fail
            go_roundw
            case rel => exact ⟨i + 1, _, by go_num, rfl, by omega, by rw [HYY.out]; exact HJI.out, HYY, HB4⟩
            case measure => simp [intOf]; omega
          · go_wp2_with fail
            refine (HLN1.out _).mono ?_; rintro e w3 ⟨rfl, hB3⟩
            have HB3 := hide (hB.out.trans (hB3.mono hB.out.size))
            clear hB3 hB c0 c1 c2 c3 c4 hwB
            obtain ⟨⟨c0, c1, c2, c3, c4⟩, s0, s1, s2, s3, s4⟩ := HFV.out _ HB3.out
            go_wp2_with fail
            refine (HCK.out _ HB3.out).mono ?_; rintro e w4 ⟨rfl, hB4⟩
            have HB4 := hide (HB3.out.trans (hB4.mono HB3.out.size))
            clear hB4 HCK s0 s1 s2 s3 s4 c0 c1 c2 c3 c4 HB3
            go_wp2_with fail
            go_roundw
            case rel => exact ⟨i + 1, _, by go_num, rfl, by omega, by rw [HYY.out]; exact HJI.out, HYY, HB4⟩
            case measure => simp [intOf]; omega
        · obtain rfl : x = i := by omega
          have HE := hide (show O = jpre ⟨#[91]⟩ L by
            have e : L.take x = L := by rw [← HLL.out, List.take_length]
            rw [hI.out, e])
          have hLs := lineB_size false lv
          have HLM := hide fun W => HLN0.out W
          obtain ⟨LB, hLB⟩ : ∃ J, J = lineB false lv := ⟨_, rfl⟩
          rw [← hLB] at HLM HZ hLs
          have hOL : (O ++ LB).size ≤ 1000000102 := by rw [bsize_append]; omega
          have HWB := hide hwB
          clear hLB hI HSUM HJZ HI HX HLA HLL ih hwB hlt hi hB
          go_wp2_with fail
          refine (HLM.out _).mono ?_; rintro e w3 ⟨rfl, hB3⟩
          have HB3 := hide (HWB.out.trans (hB3.mono HWB.out.size))
          clear hB3
          go_wp2_with fail
          go_ret
          exact ⟨ret_str (by rw [HZ.out, HE.out]), HB3.out⟩
    · have k6 : kD d = 6 := by omega
      have hm0 : iD d = [] := by rcases hiN with h | h; omega; exact h
      have hi2 : (mD d).length ≤ 1000000000 := by
        have := sumN_len (fun x : ByteArray × Dt => 100 + 6 * x.1.size + jbF m x.2) (fun x => by omega) (mD d)
        rw [jbF] at hbd; omega
      have HI := hide fun i x (h : (mD d)[i]? = some x) => And.intro (hM i x h) (And.intro (show x.1.size + jbF m x.2 ≤ 1000000000 by have := hb2 x (List.mem_of_getElem? h); omega) (And.intro (show 6 * x.1.size ≤ 1000000000 by have := sumN_le (fun x : ByteArray × Dt => 100 + 6 * x.1.size + jbF m x.2) (List.mem_of_getElem? h); rw [jbF] at hbd; omega) (And.intro (hkz x.2 (ms_kid (List.mem_of_getElem? h))) (jtF_le false m r' (lv + 1) x.2 (by omega) (hkz x.2 (ms_kid (List.mem_of_getElem? h)))))))
      obtain ⟨L, hL⟩ : ∃ L, L = jparts false lv (jtF false m (lv + 1)) d := ⟨_, rfl⟩
      rw [← hL] at HWR htb
      rw [mems_one hm0] at hL
      have HSUM := hide (show sumN (fun x : ByteArray => x.size + 1) L ≤ 1000000000 by have := sum_one (l := L); omega)
      rw [k6] at HWR
      obtain ⟨xs, hxs⟩ : ∃ k, k = mD d := ⟨_, rfl⟩
      unfold datV datCs
      rw [k6, hm0]
      rw [← hxs] at HI h3 hi2 hL
      obtain ⟨n, hn'⟩ : ∃ k, k = nD d := ⟨_, rfl⟩
      obtain ⟨s, hs⟩ : ∃ k, k = sD d := ⟨_, rfl⟩
      obtain ⟨x, hx⟩ : ∃ k, k = xs.length := ⟨_, rfl⟩
      rw [← hn', ← hs, ← hxs, ← hx]
      rw [← hx] at h3 hi2
      rw [show ((([] : List Dt).length : Nat)) = 0 from rfl]
      have HLL := hide (show L.length = x by rw [hL, List.length_map, hx])
      have HLA := hide (show ∀ i X, xs[i]? = some X → L[i]? = some (jpartM false lv (jtF false m (lv + 1)) X) from fun i X h => by rw [hL, List.getElem?_map, h]; rfl)
      have HX := Lib.hid hx
      have HJZ := hide (fun i => jpre_size (o := ⟨#[123]⟩) rfl HSUM.out i)
      clear hn' hs hx hxs hL hI hM hb1 hb2 htb hbd hpt hiN hmN hm0 hkz hown hcz hres h1 h2 h4 k4 k123 k5 k6 hk1 hk6 hsz hm
      go_enter Tryz.func21, Tryz.ntmps21
      go_upto_region 1 with fail
      obtain ⟨w1, g, e1, e2, hBL, c0, c1, c2, c3, c4, hROW⟩ := boxD w 6 n s (.slice A 0 c) (.slice A' x c')
      rw [e1, e2]
      have HC := hide fun W (h : Below w1.heap.size w1 W) => row5 (hROW.below h)
      have HBL := hide hBL
      clear e1 e2 hBL hROW
      go_wp2_with fail
      go_quiet (fail)
      obtain ⟨wq, hwq⟩ : ∃ W, W = w1.drewN nq := ⟨_, rfl⟩
      have HBQ := hide (show Below w1.heap.size w1 wq by rw [hwq]; exact below_drewN (Below.refl _ _) _)
      rw [← hwq]
      clear hwq c0 c1 c2 c3 c4
      obtain ⟨c0, c1, c2, c3, c4⟩ := HC.out _ HBQ.out
      go_wp2_with fail
      go_quiet (fail)
      obtain ⟨wp, hwp⟩ : ∃ W, W = wq.drewN nq := ⟨_, rfl⟩
      have HBP := hide (show Below w1.heap.size w1 wp by rw [hwp]; exact below_drewN HBQ.out _)
      rw [← hwp]
      clear hwp c0 c1 c2 c3 c4 HBQ
      obtain ⟨c0, c1, c2, c3, c4⟩ := HC.out _ HBP.out
      by_cases hx0 : x = 0
      · subst hx0
        have HZ := hide (show res = ⟨#[123]⟩ ++ ⟨#[125]⟩ from HWR.out.trans (wrap_nil HLL.out))
        have HBZ := hide (HBL.out.trans (HBP.out.mono HBL.out.size))
        clear HI HLA HX HLL HWR HSUM HJZ ih HLN HLN0
        go_wp2_with fail
        go_ret
        exact ⟨ret_str HZ.out.symm, HBZ.out⟩
      have hg1 : ((x : Int) == 0) = false := by simp; omega
      have HZ := hide (show res = jpre ⟨#[123]⟩ L ++ lineB false lv ++ ⟨#[125]⟩ from HWR.out.trans (wrap_cons (by rw [HLL.out]; exact hx0)))
      clear HWR hx0
      go_wp2_with fail
      go_loopw [11, 12] (fun ov iv wr => ∃ (i : Nat) (O : ByteArray), iv = .int .i64 i ∧ ov = .string O ∧ i ≤ x ∧ O.size ≤ 1000000001 ∧ Hid (O = jpre ⟨#[123]⟩ (L.take i)) ∧ Hid (Below w1.heap.size w1 wr)) (fun _ iv _ => x - (intOf iv).toNat)
      case atStart => exact ⟨0, ⟨#[123]⟩, rfl, rfl, Nat.zero_le _, by decide, hide rfl, HBP⟩
      case round =>
        clear c0 c1 c2 c3 c4 HBP
        obtain ⟨i, O, rfl, rfl, hi, hO, hI, hB⟩ := hrel
        have hwB := HBL.out.trans (hB.out.mono HBL.out.size)
        by_cases hlt : i < x
        · have hlt' : i < xs.length := by rw [← HX.out]; exact hlt
          obtain ⟨⟨ad, rfl, hb, hlab, a, q, a', q', hfive, hpts⟩, htx, hlx, hcx, htl⟩ := HI.out i _ (List.getElem?_eq_getElem hlt')
          obtain ⟨X, hX⟩ : ∃ X, X = xs[i] := ⟨_, rfl⟩
          rw [← hX] at hlab hfive hpts htx hlx hcx htl
          have hbb : (ad.add (i * 6)).block < w.heap.size := by rw [block_of_add]; exact hb
          have HFV := hide fun W (h : Below w1.heap.size w1 W) => And.intro (HC.out W h) (six_of (((HBL.out.trans (h.mono HBL.out.size)).cell (p := ad.add (i * 6)) hbb).trans hlab) (hfive.same (p := ⟨_, _, none⟩) hbb (Same.of_below (HBL.out.trans (h.mono HBL.out.size)))))
          have HCK := hide fun w' (hB' : Below w1.heap.size w1 w') => ih r' (lv + 1) X.2 a q a' q' w' (by omega) hcx (hpts.turn (Same.of_below (HBL.out.trans (hB'.mono HBL.out.size))) (HBL.out.trans (hB'.mono HBL.out.size)).size) (by omega)
          have HQ := hide fun W => rquote_run X.1 (by omega) W
          have HXX := hide (show (if 0 < i then O ++ ⟨#[44]⟩ else O) ++ (lineB false (lv + 1) ++ jqB X.1 ++ colB false ++ jtF false m (lv + 1) X.2) = jpre ⟨#[123]⟩ (L.take (i + 1)) by
            rw [take_push (HLA.out i _ (List.getElem?_eq_getElem hlt')), jpre_push, take_len (by rw [HLL.out]; omega), ← hI.out, hX]; rfl)
          have hqs := jqB_size X.1
          unfold datV datCs at HCK
          obtain ⟨T, hT⟩ : ∃ T, T = jtF false m (lv + 1) X.2 := ⟨_, rfl⟩
          obtain ⟨LB, hLB⟩ : ∃ T, T = lineB false (lv + 1) := ⟨_, rfl⟩
          obtain ⟨QB, hQB⟩ : ∃ T, T = jqB X.1 := ⟨_, rfl⟩
          have hls : LB.size ≤ 100 := by rw [hLB]; have := lineB_size false (lv + 1); omega
          rw [← hT] at HCK HXX htl
          rw [← hLB, ← hQB] at HXX
          rw [← hQB] at HQ hqs
          have HLN1 := hide fun W => (HLN.out W)
          rw [← hLB] at HLN1

          have hT1 : T.size ≤ 1000000000 := by omega
          have hQ1 : QB.size ≤ 1000000010 := by omega
          have HJI := hide (HJZ.out (i + 1))
          obtain ⟨⟨c0, c1, c2, c3, c4⟩, _⟩ := HFV.out _ hB.out
          have hp1 : (0 < i ∧ decide ((i : Int) > 0) = true ∧ O ++ ⟨#[44]⟩ = (if 0 < i then O ++ ⟨#[44]⟩ else O)) ∨ (¬ 0 < i ∧ decide ((i : Int) > 0) = false ∧ O = (if 0 < i then O ++ ⟨#[44]⟩ else O)) := by
            by_cases h : 0 < i
            · exact .inl ⟨h, by simp; omega, by rw [if_pos h]⟩
            · exact .inr ⟨h, by simp; omega, by rw [if_neg h]⟩
          obtain ⟨P, hP⟩ : ∃ P, P = (if 0 < i then O ++ ⟨#[44]⟩ else O) := ⟨_, rfl⟩
          rw [← hP] at hp1 HXX
          have hPs : P.size ≤ 1000000002 := by
            rw [hP]; split
            · rw [bsize_append]; show O.size + 1 ≤ _; omega
            · omega
          have hPL : (P ++ LB).size ≤ 1000000102 := by rw [bsize_append]; omega
          have hPQ : (P ++ LB ++ QB).size ≤ 2000000202 := by rw [bsize_append]; omega
          have hPC : (P ++ LB ++ QB ++ ⟨#[58]⟩).size ≤ 2000000203 := by rw [bsize_append]; show _ + 1 ≤ _; omega

          have HYY := hide (show (P ++ LB ++ QB ++ ⟨#[58]⟩) ++ T = jpre ⟨#[123]⟩ (L.take (i + 1)) by rw [← HXX.out, show colB false = ⟨#[58]⟩ from rfl]; simp only [ByteArray.append_assoc])
          clear hpts hX hlt' hb hbb hT hLB hQB htx hlx hcx htl hP HXX hI hfive hlab
          rcases hp1 with ⟨_, gi, hPO⟩ | ⟨_, gi, rfl⟩
          · have HPO := Lib.hid hPO
            clear hPO
            go_upto_region 20 with fail
            rw [HPO.out]
            go_wp2_with fail
            refine (HLN1.out _).mono ?_; rintro e w3 ⟨rfl, hB3⟩
            have HB3 := hide (hB.out.trans (hB3.mono hB.out.size))
            clear hB3 hB c0 c1 c2 c3 c4 hwB
            obtain ⟨⟨c0, c1, c2, c3, c4⟩, s0, s1, s2, s3, s4, s5⟩ := HFV.out _ HB3.out
            go_wp2_with fail
            refine (HQ.out _).mono ?_; rintro e w4 ⟨rfl, hB4⟩
            have HB4 := hide (HB3.out.trans (hB4.mono HB3.out.size))
            clear hB4 s0 s1 s2 s3 s4 s5 c0 c1 c2 c3 c4 HB3
            obtain ⟨⟨c0, c1, c2, c3, c4⟩, s0, s1, s2, s3, s4, s5⟩ := HFV.out _ HB4.out
            go_wp2_with fail
            refine (HCK.out _ HB4.out).mono ?_; rintro e w5 ⟨rfl, hB5⟩
            have HB5 := hide (HB4.out.trans (hB5.mono HB4.out.size))
            clear hB5 HCK s0 s1 s2 s3 s4 s5 c0 c1 c2 c3 c4 HB4
            go_wp2_with fail
            go_roundw
            case rel => exact ⟨i + 1, _, by go_num, rfl, by omega, by rw [HYY.out]; exact HJI.out, HYY, HB5⟩
            case measure => simp [intOf]; omega
          · go_wp2_with fail
            refine (HLN1.out _).mono ?_; rintro e w3 ⟨rfl, hB3⟩
            have HB3 := hide (hB.out.trans (hB3.mono hB.out.size))
            clear hB3 hB c0 c1 c2 c3 c4 hwB
            obtain ⟨⟨c0, c1, c2, c3, c4⟩, s0, s1, s2, s3, s4, s5⟩ := HFV.out _ HB3.out
            go_wp2_with fail
            refine (HQ.out _).mono ?_; rintro e w4 ⟨rfl, hB4⟩
            have HB4 := hide (HB3.out.trans (hB4.mono HB3.out.size))
            clear hB4 s0 s1 s2 s3 s4 s5 c0 c1 c2 c3 c4 HB3
            obtain ⟨⟨c0, c1, c2, c3, c4⟩, s0, s1, s2, s3, s4, s5⟩ := HFV.out _ HB4.out
            go_wp2_with fail
            refine (HCK.out _ HB4.out).mono ?_; rintro e w5 ⟨rfl, hB5⟩
            have HB5 := hide (HB4.out.trans (hB5.mono HB4.out.size))
            clear hB5 HCK s0 s1 s2 s3 s4 s5 c0 c1 c2 c3 c4 HB4
            go_wp2_with fail
            go_roundw
            case rel => exact ⟨i + 1, _, by go_num, rfl, by omega, by rw [HYY.out]; exact HJI.out, HYY, HB5⟩
            case measure => simp [intOf]; omega
        · obtain rfl : x = i := by omega
          have HE := hide (show O = jpre ⟨#[123]⟩ L by
            have e : L.take x = L := by rw [← HLL.out, List.take_length]
            rw [hI.out, e])
          have hLs := lineB_size false lv
          have HLM := hide fun W => HLN0.out W
          obtain ⟨LB, hLB⟩ : ∃ J, J = lineB false lv := ⟨_, rfl⟩
          rw [← hLB] at HLM HZ hLs
          have hOL : (O ++ LB).size ≤ 1000000102 := by rw [bsize_append]; omega
          have HWB := hide hwB
          clear hLB hI HSUM HJZ HI HX HLA HLL ih hwB hlt hi hB
          go_wp2_with fail
          refine (HLM.out _).mono ?_; rintro e w3 ⟨rfl, hB3⟩
          have HB3 := hide (HWB.out.trans (hB3.mono HWB.out.size))
          clear hB3
          go_wp2_with fail
          go_ret
          exact ⟨ret_str (by rw [HZ.out, HE.out]), HB3.out⟩
end Go.Proofs.YtmmbbndoimleaaaGreatDoor

/- text of the reference, blanks true. -/
namespace Go.Proofs.YtmmbbndoimleaaaGreatDoor
open Go.RowKit

set_option maxRecDepth 100000 in
set_option maxHeartbeats 4000000 in
theorem rtext37_true : ∀ (m r lv : Nat) (d : Dt) (A : Option Addr) (c : Nat) (A' : Option Addr) (c' : Nat) (w : World), lv + r ≤ 16 → checkF r d = 0 → Parts w w.heap.size m d A c A' c' → jbF m d ≤ 1000000000 →
    Calls Tryz.prog 21 #[datV d A c A' c', .int .i64 lv] w fun e w' => e = .returned (.string (jtF true m lv d)) ∧ Below w.heap.size w w' := by
  intro m
  induction m with
  | zero => intro r lv d A c A' c' w _ _ hp _; exact hp.elim
  | succ m ih =>
    intro r lv d A c A' c' w hlv hcz hp hbd
    have hpt := hp
    obtain ⟨r', rfl, hown, hkz⟩ := valid_kid hcz
    obtain ⟨⟨hk1, hk6⟩, _, _, hiN, hmN, _⟩ := valid_fields hown
    have htb := jparts_le true m lv (by omega) (jtF true m (lv + 1)) d (fun x hx => jtF_le true m r' (lv + 1) x (by omega) (hkz x hx))
    have hsz : (sD d).size ≤ 166700000 := by omega
    obtain ⟨hb1, hb2⟩ := jbF_kids (m := m) (d := d)
    obtain ⟨⟨h1, h2, h3, h4⟩, hI, hM⟩ := hp
    have hm := maxLen_le h2; have hm' := maxLen_le h4
    have hlv16 : lv ≤ 16 := by omega
    have hcast : ((lv + 1 : Nat) : Int) = (lv : Int) + 1 := by omega
    have hwrap : IntKind.i64.wrap ((lv : Int) + 1) = (lv : Int) + 1 := IntWalk.i64_in _ (by omega)
    have gl0 : decide ((lv : Int) < 0) = false := by simp
    have gl1 : decide ((lv : Int) ≥ 0) = true := by simp
    have gl2 : decide ((0 : Int) ≤ (lv : Int)) = true := by simp
    obtain ⟨res, hres⟩ : ∃ r, r = jtF true (m + 1) lv d := ⟨_, rfl⟩
    rw [← hres]
    have HLN := hide fun W => rline_true (lv + 1) (by omega) W
    have HLN0 := hide fun W => rline_true lv (by omega) W
    rw [hcast] at HLN
    by_cases k4 : kD d = 4
    · have HZ := hide (show res = jqB (sD d) by rw [hres, jt_str k4])
      have HQ := hide fun W => rquote_run (sD d) hsz W
      unfold datV datCs
      rw [k4]
      obtain ⟨n, hn'⟩ : ∃ k, k = nD d := ⟨_, rfl⟩
      obtain ⟨s, hs⟩ : ∃ k, k = sD d := ⟨_, rfl⟩
      obtain ⟨x, hx⟩ : ∃ k, k = (iD d).length := ⟨_, rfl⟩
      obtain ⟨y, hy⟩ : ∃ k, k = (mD d).length := ⟨_, rfl⟩
      rw [← hn', ← hs, ← hx, ← hy]
      rw [← hs] at HQ HZ
      clear hn' hs hx hy hI hM hb1 hb2 htb hbd hpt hiN hmN hkz hown hcz hres h1 h2 h3 h4 k4 hk1 hk6 ih HLN HLN0 hsz hm hm'
      go_enter Tryz.func21, Tryz.ntmps21
      go_upto_region 1 with fail
      obtain ⟨w1, g, e1, e2, hBL, c0, c1, c2, c3, c4, hROW⟩ := boxD w 4 n s (.slice A x c) (.slice A' y c')
      rw [e1, e2]
      have HBL := hide hBL
      clear e1 e2 hBL hROW
      go_wp2_with fail
      refine (HQ.out _).mono ?_; rintro e w4 ⟨rfl, hB4⟩
      have HB4 := hide (HBL.out.trans (hB4.mono HBL.out.size))
      clear hB4
      go_wp2_with fail
      go_ret
      exact ⟨ret_str HZ.out.symm, HB4.out⟩
    by_cases k123 : kD d = 1 ∨ kD d = 2 ∨ kD d = 3
    · have HZ := hide (show res = textD (m + 1) d by rw [hres, jt_leaf k123])
      have htb2 : tbF (m + 1) d ≤ 1000000000 := by omega
      have HQ := hide fun W (hB : Below w.heap.size w W) => refText_run (m + 1) d A c A' c' W (hpt.turn (Same.of_below hB) hB.size) htb2
      unfold datV datCs at HQ
      unfold datV datCs
      obtain ⟨k, hk⟩ : ∃ k, k = kD d := ⟨_, rfl⟩
      obtain ⟨n, hn'⟩ : ∃ k, k = nD d := ⟨_, rfl⟩
      obtain ⟨s, hs⟩ : ∃ k, k = sD d := ⟨_, rfl⟩
      obtain ⟨x, hx⟩ : ∃ k, k = (iD d).length := ⟨_, rfl⟩
      obtain ⟨y, hy⟩ : ∃ k, k = (mD d).length := ⟨_, rfl⟩
      rw [← hk, ← hn', ← hs, ← hx, ← hy] at HQ
      rw [← hk, ← hn', ← hs, ← hx, ← hy]
      obtain ⟨T, hT⟩ : ∃ T, T = textD (m + 1) d := ⟨_, rfl⟩
      obtain ⟨z, hz⟩ : ∃ T, T = checkD d := ⟨_, rfl⟩
      rw [← hT, ← hz] at HQ
      rw [← hT] at HZ
      rw [← hk] at k123
      clear hk hn' hs hx hy hT hz hI hM hb1 hb2 htb htb2 hbd hpt hiN hmN hkz hown hcz hres h1 h2 h3 h4 k4 hk1 hk6 ih HLN HLN0 hsz hm hm'
      rcases k123 with rfl | rfl | rfl
      all_goals
        go_enter Tryz.func21, Tryz.ntmps21
        go_upto_region 1 with fail
        obtain ⟨w1, g, e1, e2, hBL, c0, c1, c2, c3, c4, hROW⟩ := boxD w _ n s (.slice A x c) (.slice A' y c')
        rw [e1, e2]
        have HBL := hide hBL
        clear e1 e2 hBL hROW
        go_wp2_with fail
        refine (HQ.out _ HBL.out).mono ?_; rintro e w4 ⟨rfl, hB4⟩
        have HB4 := hide (HBL.out.trans (hB4.mono HBL.out.size))
        clear hB4
        go_wp2_with fail
        go_ret
        exact ⟨ret_str HZ.out.symm, HB4.out⟩
    have HWR := hide (hres.trans (jt_wrap (by omega)))
    by_cases k5 : kD d = 5
    · have hm0 : mD d = [] := by rcases hmN with h | h; omega; exact h
      have hi2 : (iD d).length ≤ 1000000000 := by
        have := sumN_len (fun x => 100 + jbF m x) (fun x => by omega) (iD d)
        rw [jbF] at hbd; omega
      have HI := hide fun i x (h : (iD d)[i]? = some x) => And.intro (hI i x h) (And.intro (show jbF m x ≤ 1000000000 by have := hb1 x (List.mem_of_getElem? h); omega) (And.intro (hkz x (is_kid (List.mem_of_getElem? h))) (jtF_le true m r' (lv + 1) x (by omega) (hkz x (is_kid (List.mem_of_getElem? h))))))
      obtain ⟨L, hL⟩ : ∃ L, L = jparts true lv (jtF true m (lv + 1)) d := ⟨_, rfl⟩
      rw [← hL] at HWR htb
      rw [list_one hm0] at hL
      have HSUM := hide (show sumN (fun x : ByteArray => x.size + 1) L ≤ 1000000000 by have := sum_one (l := L); omega)
      rw [k5] at HWR
      obtain ⟨xs, hxs⟩ : ∃ k, k = iD d := ⟨_, rfl⟩
      unfold datV datCs
      rw [k5, hm0]
      rw [← hxs] at HI h1 hi2 hL
      obtain ⟨n, hn'⟩ : ∃ k, k = nD d := ⟨_, rfl⟩
      obtain ⟨s, hs⟩ : ∃ k, k = sD d := ⟨_, rfl⟩
      obtain ⟨x, hx⟩ : ∃ k, k = xs.length := ⟨_, rfl⟩
      rw [← hn', ← hs, ← hxs, ← hx]
      rw [← hx] at h1 hi2
      rw [show ((([] : List (ByteArray × Dt)).length : Nat)) = 0 from rfl]
      have HLL := hide (show L.length = x by rw [hL, List.length_map, hx])
      have HLA := hide (show ∀ i X, xs[i]? = some X → L[i]? = some (jpartI true lv (jtF true m (lv + 1)) X) from fun i X h => by rw [hL, List.getElem?_map, h]; rfl)
      have HX := Lib.hid hx
      have HJZ := hide (fun i => jpre_size (o := ⟨#[91]⟩) rfl HSUM.out i)
      clear hn' hs hx hxs hL hI hM hb1 hb2 htb hbd hpt hiN hmN hm0 hkz hown hcz hres h2 h3 h4 k4 k123 k5 hk1 hk6 hsz hm'
      go_enter Tryz.func21, Tryz.ntmps21
      go_upto_region 1 with fail
      obtain ⟨w1, g, e1, e2, hBL, c0, c1, c2, c3, c4, hROW⟩ := boxD w 5 n s (.slice A x c) (.slice A' 0 c')
      rw [e1, e2]
      have HC := hide fun W (h : Below w1.heap.size w1 W) => row5 (hROW.below h)
      have HBL := hide hBL
      clear e1 e2 hBL hROW
      go_wp2_with fail
      go_quiet (fail)
      obtain ⟨wq, hwq⟩ : ∃ W, W = w1.drewN nq := ⟨_, rfl⟩
      have HBQ := hide (show Below w1.heap.size w1 wq by rw [hwq]; exact below_drewN (Below.refl _ _) _)
      rw [← hwq]
      clear hwq c0 c1 c2 c3 c4
      obtain ⟨c0, c1, c2, c3, c4⟩ := HC.out _ HBQ.out
      by_cases hx0 : x = 0
      · subst hx0
        have HZ := hide (show res = ⟨#[91]⟩ ++ ⟨#[93]⟩ from HWR.out.trans (wrap_nil HLL.out))
        have HBZ := hide (HBL.out.trans (HBQ.out.mono HBL.out.size))
        clear HI HLA HX HLL HWR HSUM HJZ ih HLN HLN0
        go_wp2_with fail
        go_ret
        exact ⟨ret_str HZ.out.symm, HBZ.out⟩
      have hg1 : ((x : Int) == 0) = false := by simp; omega
      have HZ := hide (show res = jpre ⟨#[91]⟩ L ++ lineB true lv ++ ⟨#[93]⟩ from HWR.out.trans (wrap_cons (by rw [HLL.out]; exact hx0)))
      clear HWR hx0
      go_wp2_with fail
      go_loopw [11, 12] (fun ov iv wr => ∃ (i : Nat) (O : ByteArray), iv = .int .i64 i ∧ ov = .string O ∧ i ≤ x ∧ O.size ≤ 1000000001 ∧ Hid (O = jpre ⟨#[91]⟩ (L.take i)) ∧ Hid (Below w1.heap.size w1 wr)) (fun _ iv _ => x - (intOf iv).toNat)
      case atStart => exact ⟨0, ⟨#[91]⟩, rfl, rfl, Nat.zero_le _, by decide, hide rfl, HBQ⟩
      case round =>
        clear c0 c1 c2 c3 c4 HBQ
        obtain ⟨i, O, rfl, rfl, hi, hO, hI, hB⟩ := hrel
        have hwB := HBL.out.trans (hB.out.mono HBL.out.size)
        by_cases hlt : i < x
        · have hlt' : i < xs.length := by rw [← HX.out]; exact hlt
          obtain ⟨⟨ad, rfl, hb, a, q, a', q', hfive, hpts⟩, htx, hcx, htl⟩ := HI.out i _ (List.getElem?_eq_getElem hlt')
          obtain ⟨X, hX⟩ : ∃ X, X = xs[i] := ⟨_, rfl⟩
          rw [← hX] at hfive hpts htx hcx htl
          have hbb : (ad.add (i * 5)).block < w.heap.size := by rw [block_of_add]; exact hb
          have HFV := hide fun W (h : Below w1.heap.size w1 W) => And.intro (HC.out W h) (hfive.same hbb (Same.of_below (HBL.out.trans (h.mono HBL.out.size))))
          have HCK := hide fun w' (hB' : Below w1.heap.size w1 w') => ih r' (lv + 1) X a q a' q' w' (by omega) hcx (hpts.turn (Same.of_below (HBL.out.trans (hB'.mono HBL.out.size))) (HBL.out.trans (hB'.mono HBL.out.size)).size) htx
          have HXX := hide (show (if 0 < i then O ++ ⟨#[44]⟩ else O) ++ (lineB true (lv + 1) ++ jtF true m (lv + 1) X) = jpre ⟨#[91]⟩ (L.take (i + 1)) by
            rw [take_push (HLA.out i _ (List.getElem?_eq_getElem hlt')), jpre_push, take_len (by rw [HLL.out]; omega), ← hI.out, hX]; rfl)
          unfold datV datCs at HCK
          obtain ⟨T, hT⟩ : ∃ T, T = jtF true m (lv + 1) X := ⟨_, rfl⟩
          obtain ⟨LB, hLB⟩ : ∃ T, T = lineB true (lv + 1) := ⟨_, rfl⟩
          have hls : LB.size ≤ 100 := by rw [hLB]; have := lineB_size true (lv + 1); omega
          rw [← hT] at HCK HXX htl
          rw [← hLB] at HXX
          have HLN1 := hide fun W => (HLN.out W)
          rw [← hLB] at HLN1
          rw [hcast] at HCK
          have hT1 : T.size ≤ 1000000000 := by omega
          have HJI := hide (HJZ.out (i + 1))
          obtain ⟨⟨c0, c1, c2, c3, c4⟩, _⟩ := HFV.out _ hB.out
          have hp1 : (0 < i ∧ decide ((i : Int) > 0) = true ∧ O ++ ⟨#[44]⟩ = (if 0 < i then O ++ ⟨#[44]⟩ else O)) ∨ (¬ 0 < i ∧ decide ((i : Int) > 0) = false ∧ O = (if 0 < i then O ++ ⟨#[44]⟩ else O)) := by
            by_cases h : 0 < i
            · exact .inl ⟨h, by simp; omega, by rw [if_pos h]⟩
            · exact .inr ⟨h, by simp; omega, by rw [if_neg h]⟩
          obtain ⟨P, hP⟩ : ∃ P, P = (if 0 < i then O ++ ⟨#[44]⟩ else O) := ⟨_, rfl⟩
          rw [← hP] at hp1 HXX
          have hPs : P.size ≤ 1000000002 := by
            rw [hP]; split
            · rw [bsize_append]; show O.size + 1 ≤ _; omega
            · omega
          have hPL : (P ++ LB).size ≤ 1000000102 := by rw [bsize_append]; omega
          have HYY := hide (show (P ++ LB) ++ T = jpre ⟨#[91]⟩ (L.take (i + 1)) by rw [← HXX.out, ByteArray.append_assoc])
          clear hpts hX hlt' hb hbb hT hLB htx hcx htl hP HXX hI hfive
          rcases hp1 with ⟨_, gi, hPO⟩ | ⟨_, gi, rfl⟩
          · have HPO := Lib.hid hPO
            clear hPO
            go_upto_region 20 with fail
            rw [HPO.out]
            go_wp2_with fail
            refine (HLN1.out _).mono ?_; rintro e w3 ⟨rfl, hB3⟩
            have HB3 := hide (hB.out.trans (hB3.mono hB.out.size))
            clear hB3 hB c0 c1 c2 c3 c4 hwB
            obtain ⟨⟨c0, c1, c2, c3, c4⟩, s0, s1, s2, s3, s4⟩ := HFV.out _ HB3.out
            go_wp2_with fail
            refine (HCK.out _ HB3.out).mono ?_; rintro e w4 ⟨rfl, hB4⟩
            have HB4 := hide (HB3.out.trans (hB4.mono HB3.out.size))
            clear hB4 HCK s0 s1 s2 s3 s4 c0 c1 c2 c3 c4 HB3
            go_wp2_with fail
            go_roundw
            case rel => exact ⟨i + 1, _, by go_num, rfl, by omega, by rw [HYY.out]; exact HJI.out, HYY, HB4⟩
            case measure => simp [intOf]; omega
          · go_wp2_with fail
            refine (HLN1.out _).mono ?_; rintro e w3 ⟨rfl, hB3⟩
            have HB3 := hide (hB.out.trans (hB3.mono hB.out.size))
            clear hB3 hB c0 c1 c2 c3 c4 hwB
            obtain ⟨⟨c0, c1, c2, c3, c4⟩, s0, s1, s2, s3, s4⟩ := HFV.out _ HB3.out
            go_wp2_with fail
            refine (HCK.out _ HB3.out).mono ?_; rintro e w4 ⟨rfl, hB4⟩
            have HB4 := hide (HB3.out.trans (hB4.mono HB3.out.size))
            clear hB4 HCK s0 s1 s2 s3 s4 c0 c1 c2 c3 c4 HB3
            go_wp2_with fail
            go_roundw
            case rel => exact ⟨i + 1, _, by go_num, rfl, by omega, by rw [HYY.out]; exact HJI.out, HYY, HB4⟩
            case measure => simp [intOf]; omega
        · obtain rfl : x = i := by omega
          have HE := hide (show O = jpre ⟨#[91]⟩ L by
            have e : L.take x = L := by rw [← HLL.out, List.take_length]
            rw [hI.out, e])
          have hLs := lineB_size true lv
          have HLM := hide fun W => HLN0.out W
          obtain ⟨LB, hLB⟩ : ∃ J, J = lineB true lv := ⟨_, rfl⟩
          rw [← hLB] at HLM HZ hLs
          have hOL : (O ++ LB).size ≤ 1000000102 := by rw [bsize_append]; omega
          have HWB := hide hwB
          clear hLB hI HSUM HJZ HI HX HLA HLL ih hwB hlt hi hB
          go_wp2_with fail
          refine (HLM.out _).mono ?_; rintro e w3 ⟨rfl, hB3⟩
          have HB3 := hide (HWB.out.trans (hB3.mono HWB.out.size))
          clear hB3
          go_wp2_with fail
          go_ret
          exact ⟨ret_str (by rw [HZ.out, HE.out]), HB3.out⟩
    · have k6 : kD d = 6 := by omega
      have hm0 : iD d = [] := by rcases hiN with h | h; omega; exact h
      have hi2 : (mD d).length ≤ 1000000000 := by
        have := sumN_len (fun x : ByteArray × Dt => 100 + 6 * x.1.size + jbF m x.2) (fun x => by omega) (mD d)
        rw [jbF] at hbd; omega
      have HI := hide fun i x (h : (mD d)[i]? = some x) => And.intro (hM i x h) (And.intro (show x.1.size + jbF m x.2 ≤ 1000000000 by have := hb2 x (List.mem_of_getElem? h); omega) (And.intro (show 6 * x.1.size ≤ 1000000000 by have := sumN_le (fun x : ByteArray × Dt => 100 + 6 * x.1.size + jbF m x.2) (List.mem_of_getElem? h); rw [jbF] at hbd; omega) (And.intro (hkz x.2 (ms_kid (List.mem_of_getElem? h))) (jtF_le true m r' (lv + 1) x.2 (by omega) (hkz x.2 (ms_kid (List.mem_of_getElem? h)))))))
      obtain ⟨L, hL⟩ : ∃ L, L = jparts true lv (jtF true m (lv + 1)) d := ⟨_, rfl⟩
      rw [← hL] at HWR htb
      rw [mems_one hm0] at hL
      have HSUM := hide (show sumN (fun x : ByteArray => x.size + 1) L ≤ 1000000000 by have := sum_one (l := L); omega)
      rw [k6] at HWR
      obtain ⟨xs, hxs⟩ : ∃ k, k = mD d := ⟨_, rfl⟩
      unfold datV datCs
      rw [k6, hm0]
      rw [← hxs] at HI h3 hi2 hL
      obtain ⟨n, hn'⟩ : ∃ k, k = nD d := ⟨_, rfl⟩
      obtain ⟨s, hs⟩ : ∃ k, k = sD d := ⟨_, rfl⟩
      obtain ⟨x, hx⟩ : ∃ k, k = xs.length := ⟨_, rfl⟩
      rw [← hn', ← hs, ← hxs, ← hx]
      rw [← hx] at h3 hi2
      rw [show ((([] : List Dt).length : Nat)) = 0 from rfl]
      have HLL := hide (show L.length = x by rw [hL, List.length_map, hx])
      have HLA := hide (show ∀ i X, xs[i]? = some X → L[i]? = some (jpartM true lv (jtF true m (lv + 1)) X) from fun i X h => by rw [hL, List.getElem?_map, h]; rfl)
      have HX := Lib.hid hx
      have HJZ := hide (fun i => jpre_size (o := ⟨#[123]⟩) rfl HSUM.out i)
      clear hn' hs hx hxs hL hI hM hb1 hb2 htb hbd hpt hiN hmN hm0 hkz hown hcz hres h1 h2 h4 k4 k123 k5 k6 hk1 hk6 hsz hm
      go_enter Tryz.func21, Tryz.ntmps21
      go_upto_region 1 with fail
      obtain ⟨w1, g, e1, e2, hBL, c0, c1, c2, c3, c4, hROW⟩ := boxD w 6 n s (.slice A 0 c) (.slice A' x c')
      rw [e1, e2]
      have HC := hide fun W (h : Below w1.heap.size w1 W) => row5 (hROW.below h)
      have HBL := hide hBL
      clear e1 e2 hBL hROW
      go_wp2_with fail
      go_quiet (fail)
      obtain ⟨wq, hwq⟩ : ∃ W, W = w1.drewN nq := ⟨_, rfl⟩
      have HBQ := hide (show Below w1.heap.size w1 wq by rw [hwq]; exact below_drewN (Below.refl _ _) _)
      rw [← hwq]
      clear hwq c0 c1 c2 c3 c4
      obtain ⟨c0, c1, c2, c3, c4⟩ := HC.out _ HBQ.out
      go_wp2_with fail
      go_quiet (fail)
      obtain ⟨wp, hwp⟩ : ∃ W, W = wq.drewN nq := ⟨_, rfl⟩
      have HBP := hide (show Below w1.heap.size w1 wp by rw [hwp]; exact below_drewN HBQ.out _)
      rw [← hwp]
      clear hwp c0 c1 c2 c3 c4 HBQ
      obtain ⟨c0, c1, c2, c3, c4⟩ := HC.out _ HBP.out
      by_cases hx0 : x = 0
      · subst hx0
        have HZ := hide (show res = ⟨#[123]⟩ ++ ⟨#[125]⟩ from HWR.out.trans (wrap_nil HLL.out))
        have HBZ := hide (HBL.out.trans (HBP.out.mono HBL.out.size))
        clear HI HLA HX HLL HWR HSUM HJZ ih HLN HLN0
        go_wp2_with fail
        go_ret
        exact ⟨ret_str HZ.out.symm, HBZ.out⟩
      have hg1 : ((x : Int) == 0) = false := by simp; omega
      have HZ := hide (show res = jpre ⟨#[123]⟩ L ++ lineB true lv ++ ⟨#[125]⟩ from HWR.out.trans (wrap_cons (by rw [HLL.out]; exact hx0)))
      clear HWR hx0
      go_wp2_with fail
      go_loopw [11, 12] (fun ov iv wr => ∃ (i : Nat) (O : ByteArray), iv = .int .i64 i ∧ ov = .string O ∧ i ≤ x ∧ O.size ≤ 1000000001 ∧ Hid (O = jpre ⟨#[123]⟩ (L.take i)) ∧ Hid (Below w1.heap.size w1 wr)) (fun _ iv _ => x - (intOf iv).toNat)
      case atStart => exact ⟨0, ⟨#[123]⟩, rfl, rfl, Nat.zero_le _, by decide, hide rfl, HBP⟩
      case round =>
        clear c0 c1 c2 c3 c4 HBP
        obtain ⟨i, O, rfl, rfl, hi, hO, hI, hB⟩ := hrel
        have hwB := HBL.out.trans (hB.out.mono HBL.out.size)
        by_cases hlt : i < x
        · have hlt' : i < xs.length := by rw [← HX.out]; exact hlt
          obtain ⟨⟨ad, rfl, hb, hlab, a, q, a', q', hfive, hpts⟩, htx, hlx, hcx, htl⟩ := HI.out i _ (List.getElem?_eq_getElem hlt')
          obtain ⟨X, hX⟩ : ∃ X, X = xs[i] := ⟨_, rfl⟩
          rw [← hX] at hlab hfive hpts htx hlx hcx htl
          have hbb : (ad.add (i * 6)).block < w.heap.size := by rw [block_of_add]; exact hb
          have HFV := hide fun W (h : Below w1.heap.size w1 W) => And.intro (HC.out W h) (six_of (((HBL.out.trans (h.mono HBL.out.size)).cell (p := ad.add (i * 6)) hbb).trans hlab) (hfive.same (p := ⟨_, _, none⟩) hbb (Same.of_below (HBL.out.trans (h.mono HBL.out.size)))))
          have HCK := hide fun w' (hB' : Below w1.heap.size w1 w') => ih r' (lv + 1) X.2 a q a' q' w' (by omega) hcx (hpts.turn (Same.of_below (HBL.out.trans (hB'.mono HBL.out.size))) (HBL.out.trans (hB'.mono HBL.out.size)).size) (by omega)
          have HQ := hide fun W => rquote_run X.1 (by omega) W
          have HXX := hide (show (if 0 < i then O ++ ⟨#[44]⟩ else O) ++ (lineB true (lv + 1) ++ jqB X.1 ++ colB true ++ jtF true m (lv + 1) X.2) = jpre ⟨#[123]⟩ (L.take (i + 1)) by
            rw [take_push (HLA.out i _ (List.getElem?_eq_getElem hlt')), jpre_push, take_len (by rw [HLL.out]; omega), ← hI.out, hX]; rfl)
          have hqs := jqB_size X.1
          unfold datV datCs at HCK
          obtain ⟨T, hT⟩ : ∃ T, T = jtF true m (lv + 1) X.2 := ⟨_, rfl⟩
          obtain ⟨LB, hLB⟩ : ∃ T, T = lineB true (lv + 1) := ⟨_, rfl⟩
          obtain ⟨QB, hQB⟩ : ∃ T, T = jqB X.1 := ⟨_, rfl⟩
          have hls : LB.size ≤ 100 := by rw [hLB]; have := lineB_size true (lv + 1); omega
          rw [← hT] at HCK HXX htl
          rw [← hLB, ← hQB] at HXX
          rw [← hQB] at HQ hqs
          have HLN1 := hide fun W => (HLN.out W)
          rw [← hLB] at HLN1
          rw [hcast] at HCK
          have hT1 : T.size ≤ 1000000000 := by omega
          have hQ1 : QB.size ≤ 1000000010 := by omega
          have HJI := hide (HJZ.out (i + 1))
          obtain ⟨⟨c0, c1, c2, c3, c4⟩, _⟩ := HFV.out _ hB.out
          have hp1 : (0 < i ∧ decide ((i : Int) > 0) = true ∧ O ++ ⟨#[44]⟩ = (if 0 < i then O ++ ⟨#[44]⟩ else O)) ∨ (¬ 0 < i ∧ decide ((i : Int) > 0) = false ∧ O = (if 0 < i then O ++ ⟨#[44]⟩ else O)) := by
            by_cases h : 0 < i
            · exact .inl ⟨h, by simp; omega, by rw [if_pos h]⟩
            · exact .inr ⟨h, by simp; omega, by rw [if_neg h]⟩
          obtain ⟨P, hP⟩ : ∃ P, P = (if 0 < i then O ++ ⟨#[44]⟩ else O) := ⟨_, rfl⟩
          rw [← hP] at hp1 HXX
          have hPs : P.size ≤ 1000000002 := by
            rw [hP]; split
            · rw [bsize_append]; show O.size + 1 ≤ _; omega
            · omega
          have hPL : (P ++ LB).size ≤ 1000000102 := by rw [bsize_append]; omega
          have hPQ : (P ++ LB ++ QB).size ≤ 2000000202 := by rw [bsize_append]; omega
          have hPC : (P ++ LB ++ QB ++ ⟨#[58]⟩).size ≤ 2000000203 := by rw [bsize_append]; show _ + 1 ≤ _; omega
          have hPD : (P ++ LB ++ QB ++ ⟨#[58]⟩ ++ ⟨#[32]⟩).size ≤ 2000000204 := by rw [bsize_append]; show _ + 1 ≤ _; omega
          have HYY := hide (show (P ++ LB ++ QB ++ ⟨#[58]⟩ ++ ⟨#[32]⟩) ++ T = jpre ⟨#[123]⟩ (L.take (i + 1)) by rw [← HXX.out, show colB true = (⟨#[58]⟩ : ByteArray) ++ ⟨#[32]⟩ from rfl]; simp only [ByteArray.append_assoc])
          clear hpts hX hlt' hb hbb hT hLB hQB htx hlx hcx htl hP HXX hI hfive hlab
          rcases hp1 with ⟨_, gi, hPO⟩ | ⟨_, gi, rfl⟩
          · have HPO := Lib.hid hPO
            clear hPO
            go_upto_region 20 with fail
            rw [HPO.out]
            go_wp2_with fail
            refine (HLN1.out _).mono ?_; rintro e w3 ⟨rfl, hB3⟩
            have HB3 := hide (hB.out.trans (hB3.mono hB.out.size))
            clear hB3 hB c0 c1 c2 c3 c4 hwB
            obtain ⟨⟨c0, c1, c2, c3, c4⟩, s0, s1, s2, s3, s4, s5⟩ := HFV.out _ HB3.out
            go_wp2_with fail
            refine (HQ.out _).mono ?_; rintro e w4 ⟨rfl, hB4⟩
            have HB4 := hide (HB3.out.trans (hB4.mono HB3.out.size))
            clear hB4 s0 s1 s2 s3 s4 s5 c0 c1 c2 c3 c4 HB3
            obtain ⟨⟨c0, c1, c2, c3, c4⟩, s0, s1, s2, s3, s4, s5⟩ := HFV.out _ HB4.out
            go_wp2_with fail
            refine (HCK.out _ HB4.out).mono ?_; rintro e w5 ⟨rfl, hB5⟩
            have HB5 := hide (HB4.out.trans (hB5.mono HB4.out.size))
            clear hB5 HCK s0 s1 s2 s3 s4 s5 c0 c1 c2 c3 c4 HB4
            go_wp2_with fail
            go_roundw
            case rel => exact ⟨i + 1, _, by go_num, rfl, by omega, by rw [HYY.out]; exact HJI.out, HYY, HB5⟩
            case measure => simp [intOf]; omega
          · go_wp2_with fail
            refine (HLN1.out _).mono ?_; rintro e w3 ⟨rfl, hB3⟩
            have HB3 := hide (hB.out.trans (hB3.mono hB.out.size))
            clear hB3 hB c0 c1 c2 c3 c4 hwB
            obtain ⟨⟨c0, c1, c2, c3, c4⟩, s0, s1, s2, s3, s4, s5⟩ := HFV.out _ HB3.out
            go_wp2_with fail
            refine (HQ.out _).mono ?_; rintro e w4 ⟨rfl, hB4⟩
            have HB4 := hide (HB3.out.trans (hB4.mono HB3.out.size))
            clear hB4 s0 s1 s2 s3 s4 s5 c0 c1 c2 c3 c4 HB3
            obtain ⟨⟨c0, c1, c2, c3, c4⟩, s0, s1, s2, s3, s4, s5⟩ := HFV.out _ HB4.out
            go_wp2_with fail
            refine (HCK.out _ HB4.out).mono ?_; rintro e w5 ⟨rfl, hB5⟩
            have HB5 := hide (HB4.out.trans (hB5.mono HB4.out.size))
            clear hB5 HCK s0 s1 s2 s3 s4 s5 c0 c1 c2 c3 c4 HB4
            go_wp2_with fail
            go_roundw
            case rel => exact ⟨i + 1, _, by go_num, rfl, by omega, by rw [HYY.out]; exact HJI.out, HYY, HB5⟩
            case measure => simp [intOf]; omega
        · obtain rfl : x = i := by omega
          have HE := hide (show O = jpre ⟨#[123]⟩ L by
            have e : L.take x = L := by rw [← HLL.out, List.take_length]
            rw [hI.out, e])
          have hLs := lineB_size true lv
          have HLM := hide fun W => HLN0.out W
          obtain ⟨LB, hLB⟩ : ∃ J, J = lineB true lv := ⟨_, rfl⟩
          rw [← hLB] at HLM HZ hLs
          have hOL : (O ++ LB).size ≤ 1000000102 := by rw [bsize_append]; omega
          have HWB := hide hwB
          clear hLB hI HSUM HJZ HI HX HLA HLL ih hwB hlt hi hB
          go_wp2_with fail
          refine (HLM.out _).mono ?_; rintro e w3 ⟨rfl, hB3⟩
          have HB3 := hide (HWB.out.trans (hB3.mono HWB.out.size))
          clear hB3
          go_wp2_with fail
          go_ret
          exact ⟨ret_str (by rw [HZ.out, HE.out]), HB3.out⟩
end Go.Proofs.YtmmbbndoimleaaaGreatDoor
