/- text of package jsontext's layout, indent false. -/
import Derived.Test.YtmmbbndoimleaaaGreatDoorGAN

/- text of package jsontext's layout, indent false. -/
namespace Go.Proofs.YtmmbbndoimleaaaGreatDoor
open Go.RowKit

set_option maxRecDepth 100000 in
set_option maxHeartbeats 4000000 in
theorem jtext_false : ∀ (m r lv : Nat) (d : Dt) (A : Option Addr) (c : Nat) (A' : Option Addr) (c' : Nat) (w : World), lv + r ≤ 16 → checkF r d = 0 → Parts w w.heap.size m d A c A' c' → jbF m d ≤ 1000000000 → Tab w →
    Calls Tryz.prog 31 #[.agg #[.bool false], datV d A c A' c', .int .i64 lv] w fun e w' => e = .returned (.string (jtF false m lv d)) ∧ Below w.heap.size w w' := by
  intro m
  induction m with
  | zero => intro r lv d A c A' c' w _ _ hp _ _; exact hp.elim
  | succ m ih =>
    intro r lv d A c A' c' w hlv hcz hp hbd ht
    have hpt := hp
    obtain ⟨r', rfl, hown, hkz⟩ := valid_kid hcz
    obtain ⟨⟨hk1, hk6⟩, _, _, hiN, hmN, _⟩ := valid_fields hown
    have htb := jparts_le false m lv (by omega) (jtF false m (lv + 1)) d (fun x hx => jtF_le false m r' (lv + 1) x (by omega) (hkz x hx))
    have hsz : (sD d).size ≤ 166700000 := by omega
    obtain ⟨hb1, hb2⟩ := jbF_kids (m := m) (d := d)
    obtain ⟨⟨h1, h2, h3, h4⟩, hI, hM⟩ := hp
    have hm := maxLen_le h2; have hm' := maxLen_le h4
    have hlv16 : lv ≤ 16 := by omega
    have hcast : ((lv + 1 : Nat) : Int) = (lv : Int) + 1 := by omega
    have hwrap : IntKind.i64.wrap ((lv : Int) + 1) = (lv : Int) + 1 := IntWalk.i64_in _ (by omega)
    have HTAB := hide fun W (hB : Below w.heap.size w W) => tab_below ht hB
    obtain ⟨i0, hi0, hz0, hz1, hz2⟩ := info_parts infoS
    obtain ⟨res, hres⟩ : ∃ r, r = jtF false (m + 1) lv d := ⟨_, rfl⟩
    rw [← hres]
    have HLN := hide fun W => line_run false (lv + 1) (by omega) W
    have HLN0 := hide fun W => line_run false lv (by omega) W
    rw [hcast] at HLN
    obtain ⟨wL, hwL⟩ : ∃ W, W = w.alloc (.cells #[.bool false] 42) := ⟨_, rfl⟩
    obtain ⟨gl, hgl⟩ : ∃ g, g = w.heap.size := ⟨_, rfl⟩
    have hRL : Row wL gl 42 [.bool false] := by rw [hwL, hgl]; exact Row.new w _ _
    have hBL0 : Below w.heap.size w wL := by rw [hwL]; exact (Below.refl _ _).alloc (Nat.le_refl _) _
    by_cases k4 : kD d = 4
    · have HZ := hide (show res = jqB (sD d) by rw [hres, jt_str k4])
      have HQ := hide fun W => quoted_run (sD d) hsz W
      unfold datV datCs
      rw [k4]
      obtain ⟨n, hn'⟩ : ∃ k, k = nD d := ⟨_, rfl⟩
      obtain ⟨s, hs⟩ : ∃ k, k = sD d := ⟨_, rfl⟩
      obtain ⟨x, hx⟩ : ∃ k, k = (iD d).length := ⟨_, rfl⟩
      obtain ⟨y, hy⟩ : ∃ k, k = (mD d).length := ⟨_, rfl⟩
      rw [← hn', ← hs, ← hx, ← hy]
      rw [← hs] at HQ HZ
      have HRL := hide hRL; have HB0 := hide hBL0
      clear hn' hs hx hy hI hM hb1 hb2 htb hbd ht hpt hiN hmN hkz hown hcz hres h1 h2 h3 h4 hRL hBL0 k4 hk1 hk6 ih HLN HLN0 HTAB hz0 hz1 hz2 hsz hm hm'
      go_enter Tryz.func31, Tryz.ntmps31
      go_upto_region 1 with fail
      rw [← hwL]
      obtain ⟨w1, g, e1, e2, hBL, c0, c1, c2, c3, c4, hROW⟩ := boxD wL 4 n s (.slice A x c) (.slice A' y c')
      rw [e1, show w.heap.size + 1 = g by rw [← e2, hwL]; simp, ← hgl]
      have q0 : w1.cell? ⟨gl, 0, none⟩ = some (.bool false) := (HRL.out.below hBL).cell 0
      have HBL := hide (HB0.out.trans (hBL.mono HB0.out.size))
      clear e1 e2 hwL hgl hBL hROW HRL HB0
      go_wp2_with fail
      refine (HQ.out _).mono ?_; rintro e w4 ⟨rfl, hB4⟩
      have HB4 := hide (HBL.out.trans (hB4.mono HBL.out.size))
      clear hB4
      go_wp2_with fail
      go_ret
      exact ⟨ret_str HZ.out.symm, HB4.out⟩
    by_cases k123 : kD d = 1 ∨ kD d = 2 ∨ kD d = 3
    · have HZ := hide (show res = textD (m + 1) d by rw [hres, jt_leaf k123])
      have hi0 : iD d = [] := by rcases hiN with h | h; omega; exact h
      have hm0 : mD d = [] := by rcases hmN with h | h; omega; exact h
      have htb2 : tbF (m + 1) d ≤ 1000000000 := by omega
      have HQ := hide fun W (hB : Below w.heap.size w W) => Text_run (m + 1) d A c A' c' W (hpt.turn (Same.of_below hB) hB.size) (leaf_fit hi0 hm0) htb2 (tab_below ht hB)
      unfold datV datCs at HQ
      unfold datV datCs
      obtain ⟨k, hk⟩ : ∃ k, k = kD d := ⟨_, rfl⟩
      obtain ⟨n, hn'⟩ : ∃ k, k = nD d := ⟨_, rfl⟩
      obtain ⟨s, hs⟩ : ∃ k, k = sD d := ⟨_, rfl⟩
      obtain ⟨x, hx⟩ : ∃ k, k = (iD d).length := ⟨_, rfl⟩
      obtain ⟨y, hy⟩ : ∃ k, k = (mD d).length := ⟨_, rfl⟩
      rw [← hk, ← hn', ← hs, ← hx, ← hy] at HQ
      rw [← hk, ← hn', ← hs, ← hx, ← hy]
      obtain ⟨T, hT⟩ : ∃ T, T = textD (m + 1) d := ⟨_, rfl⟩
      obtain ⟨z, hz⟩ : ∃ T, T = checkD d := ⟨_, rfl⟩
      rw [← hT, ← hz] at HQ
      rw [← hT] at HZ
      rw [← hk] at k123
      have HRL := hide hRL; have HB0 := hide hBL0
      clear hk hn' hs hx hy hT hz hI hM hb1 hb2 htb htb2 hbd ht hpt hiN hmN hi0 hm0 hkz hown hcz hres h1 h2 h3 h4 hRL hBL0 k4 hk1 hk6 ih HLN HLN0 HTAB hz0 hz1 hz2 hsz hm hm'
      rcases k123 with rfl | rfl | rfl
      all_goals
        go_enter Tryz.func31, Tryz.ntmps31
        go_upto_region 1 with fail
        rw [← hwL]
        obtain ⟨w1, g, e1, e2, hBL, c0, c1, c2, c3, c4, hROW⟩ := boxD wL _ n s (.slice A x c) (.slice A' y c')
        rw [e1, show w.heap.size + 1 = g by rw [← e2, hwL]; simp, ← hgl]
        have q0 : w1.cell? ⟨gl, 0, none⟩ = some (.bool false) := (HRL.out.below hBL).cell 0
        have HBL := hide (HB0.out.trans (hBL.mono HB0.out.size))
        clear e1 e2 hwL hgl hBL hROW HRL HB0
        go_wp2_with fail
        refine (HQ.out _ HBL.out).mono ?_; rintro e w4 ⟨rfl, hB4⟩
        have HB4 := hide (HBL.out.trans (hB4.mono HBL.out.size))
        clear hB4
        go_wp2_with fail
        go_ret
        exact ⟨ret_str HZ.out.symm, HB4.out⟩
    have HRL := hide hRL; have HB0 := hide hBL0
    have HWR := hide (hres.trans (jt_wrap (by omega)))
    by_cases k5 : kD d = 5
    · have hm0 : mD d = [] := by rcases hmN with h | h; omega; exact h
      have hi2 : (iD d).length ≤ 1000000000 := by
        have := sumN_len (fun x => 100 + jbF m x) (fun x => by omega) (iD d)
        rw [jbF] at hbd; omega
      have HI := hide fun i x (h : (iD d)[i]? = some x) => And.intro (hI i x h) (And.intro (show jbF m x ≤ 1000000000 by have := hb1 x (List.mem_of_getElem? h); omega) (And.intro (hkz x (is_kid (List.mem_of_getElem? h))) (jtF_le false m r' (lv + 1) x (by omega) (hkz x (is_kid (List.mem_of_getElem? h))))))
      obtain ⟨L, hL⟩ : ∃ L, L = jparts false lv (jtF false m (lv + 1)) d := ⟨_, rfl⟩
      rw [← hL] at HWR htb
      rw [list_one hm0] at hL
      have HSUM := hide (show sumN (fun x : ByteArray => x.size + 1) L ≤ 1000000000 by have := sum_one (l := L); omega)
      rw [k5] at HWR
      obtain ⟨xs, hxs⟩ : ∃ k, k = iD d := ⟨_, rfl⟩
      unfold datV datCs
      rw [k5, hm0]
      rw [← hxs] at HI h1 hi2 hL
      obtain ⟨n, hn'⟩ : ∃ k, k = nD d := ⟨_, rfl⟩
      obtain ⟨s, hs⟩ : ∃ k, k = sD d := ⟨_, rfl⟩
      obtain ⟨x, hx⟩ : ∃ k, k = xs.length := ⟨_, rfl⟩
      rw [← hn', ← hs, ← hxs, ← hx]
      rw [← hx] at h1 hi2
      rw [show ((([] : List (ByteArray × Dt)).length : Nat)) = 0 from rfl]
      have HLL := hide (show L.length = x by rw [hL, List.length_map, hx])
      have HLA := hide (show ∀ i X, xs[i]? = some X → L[i]? = some (jpartI false lv (jtF false m (lv + 1)) X) from fun i X h => by rw [hL, List.getElem?_map, h]; rfl)
      have HX := Lib.hid hx
      clear hn' hs hx hxs hL hI hM hb1 hb2 htb hbd ht hpt hiN hmN hm0 hkz hown hcz hres h2 h3 h4 hRL hBL0 k4 k123 k5 hk1 hk6 hsz hm'
      go_enter Tryz.func31, Tryz.ntmps31
      go_upto_region 1 with fail
      rw [← hwL]
      obtain ⟨w1, g, e1, e2, hBL, c0, c1, c2, c3, c4, hROW⟩ := boxD wL 5 n s (.slice A x c) (.slice A' 0 c')
      rw [e1, show w.heap.size + 1 = g by rw [← e2, hwL]; simp, ← hgl]
      have HC := hide fun W (h : Below w1.heap.size w1 W) => (And.intro ((HRL.out.below (hBL.trans (h.mono hBL.size))).cell 0) (row5 (hROW.below h)) : W.cell? ⟨gl, 0, none⟩ = some (.bool false) ∧ _)
      have q0 : w1.cell? ⟨gl, 0, none⟩ = some (.bool false) := (HRL.out.below hBL).cell 0
      have HBL := hide (HB0.out.trans (hBL.mono HB0.out.size))
      have hgl1 : gl < w1.heap.size := (HRL.out.below hBL).lt
      have hg1 : g < w1.heap.size := hROW.lt
      clear e1 e2 hwL hgl hBL hROW HRL HB0
      go_wp2_with fail
      go_loopw [9, 14, 41] (fun ov _ iv wr => ∃ i : Nat, iv = .int .i64 i ∧ i ≤ x ∧ Hid (Below w1.heap.size w1 wr) ∧ Hid (wr.ownsRow w1.heap.size 9 1 ov i (strsV (L.take i)))) (fun _ _ iv _ => x - (intOf iv).toNat)
      case atStart => exact ⟨0, rfl, Nat.zero_le _, hide (Below.refl _ _), hide (World.ownsRow_nil _ _ _ _)⟩
      case round =>
        obtain ⟨i, rfl, hi, hB, hO⟩ := hrel
        have hwB := HBL.out.trans (hB.out.mono HBL.out.size)
        by_cases hlt : i < x
        · have hlt' : i < xs.length := by rw [← HX.out]; exact hlt
          obtain ⟨⟨ad, rfl, hb, a, q, a', q', hfive, hpts⟩, htx, hcx, htl⟩ := HI.out i _ (List.getElem?_eq_getElem hlt')
          obtain ⟨X, hX⟩ : ∃ X, X = xs[i] := ⟨_, rfl⟩
          rw [← hX] at hfive hpts htx hcx htl
          have hbb : (ad.add (i * 5)).block < w.heap.size := by rw [block_of_add]; exact hb
          obtain ⟨s0, s1, s2, s3, s4⟩ := hfive.same hbb (Same.of_below hwB)
          have HCK := hide fun w' (hB' : Below w.heap.size w w') => ih r' (lv + 1) X a q a' q' w' (by omega) hcx (hpts.turn (Same.of_below hB') hB'.size) htx (HTAB.out _ hB')
          have HXX := hide (show strsV (L.take (i + 1)) = strsV (L.take i) ++ [.string (jpartI false lv (jtF false m (lv + 1)) X)] by
            rw [List.take_add_one, HLA.out i _ (List.getElem?_eq_getElem hlt'), strsV_append, hX]; rfl)
          unfold jpartI at HXX
          unfold datV datCs at HCK
          obtain ⟨T, hT⟩ : ∃ T, T = jtF false m (lv + 1) X := ⟨_, rfl⟩
          obtain ⟨LB, hLB⟩ : ∃ T, T = lineB false (lv + 1) := ⟨_, rfl⟩
          have hls : LB.size ≤ 100 := by rw [hLB]; have := lineB_size false (lv + 1); omega
          rw [← hT] at HCK HXX htl
          rw [← hLB] at HXX
          have HLN1 := hide fun W => (HLN.out W)
          rw [← hLB] at HLN1
          rw [hcast] at HCK
          have hov : ¬ 9223372036854775807 < LB.size + T.size := by omega
          obtain ⟨c0, c1, c2, c3, c4, c5⟩ := HC.out _ hB.out
          clear hfive hpts hX hlt' hb hbb hT hLB htx hcx htl
          go_upto_region 19 with fail
          obtain ⟨wa, hwa⟩ : ∃ wa, wa = wr.alloc (Obj.cells #[Value.int IntKind.i64 (kD X), Value.int IntKind.i64 (nD X), Value.string (sD X), Value.slice a (iD X).length q, Value.slice a' (mD X).length q'] 25) := ⟨_, rfl⟩
          obtain ⟨b, hbb⟩ : ∃ b, b = wr.heap.size := ⟨_, rfl⟩
          have hR : Row wa b 25 [Value.int IntKind.i64 (kD X), Value.int IntKind.i64 (nD X), Value.string (sD X), Value.slice a (iD X).length q, Value.slice a' (mD X).length q'] := by rw [hwa, hbb]; exact Row.new wr _ _
          have HBA := hide (show Below w1.heap.size w1 wa by rw [hwa]; exact below_al hB.out _)
          have HOA := hide (show wa.ownsRow w1.heap.size 9 1 u9 i (strsV (L.take i)) by rw [hwa]; exact hO.out.alloc _)
          have hS0 : w1.heap.size ≤ wa.heap.size := HBA.out.size
          rw [← hwa, ← hbb]
          clear hwa hbb
          obtain ⟨wd, hwd⟩ : ∃ W, W = wa.drew := ⟨_, rfl⟩
          have hBD : Below wa.heap.size wa wd := by rw [hwd]; exact (Below.refl _ _).drew
          have hsd : wd.heap.size = wa.heap.size := by rw [hwd]; rfl
          have hRD := hR.below hBD
          have HBD := hide (HBA.out.trans (hBD.mono hS0))
          have HOD := hide (own_below HOA.out hBD)
          have hbsd := HBD.out.size
          have HS := hide fun W (h : Below wd.heap.size wd W) => (And.intro (HC.out W (HBD.out.trans (h.mono hbsd))).1 (row5 (hRD.below h)) : W.cell? ⟨gl, 0, none⟩ = some (.bool false) ∧ _)
          have HWB := hide fun W (h : Below wd.heap.size wd W) => HBL.out.trans ((HBD.out.trans (h.mono hbsd)).mono HBL.out.size)
          clear hR hRD hBD HBA HOA hS0 hsd s0 s1 s2 s3 s4 hB hO hwB c0 c1 c2 c3 c4 c5
          refine region_two 12 (fun W => W.cell? ⟨gl, 0, none⟩ = some (.bool false) ∧ W.cell? ⟨b, 0, none⟩ = some (.int .i64 (kD X)) ∧ W.cell? ⟨b, 1, none⟩ = some (.int .i64 (nD X)) ∧ W.cell? ⟨b, 2, none⟩ = some (.string (sD X)) ∧
              W.cell? ⟨b, 3, none⟩ = some (.slice a (iD X).length q) ∧ W.cell? ⟨b, 4, none⟩ = some (.slice a' (mD X).length q')) (by kernel_rfl) (by kernel_rfl) (by rw [← hwd]; exact HS.out _ (Below.refl _ _)) (fun hH => ?_)
          rw [← hwd] at hH ⊢
          clear hwd
          simp only [List.take_succ_cons, List.take_zero]
          refine takeH (i := 0) (v := ?_) rfl (by kernel_rfl) (by kernel_rfl) (by kernel_rfl) (fun _ _ _ h => h) (Or.inl ⟨by rfl, ?_⟩) hH ?_
          rotate_left
          · (intro w hSw; (try dsimp only at hSw); go_simp; try with_reducible rfl)
          simp only [Act.put, List.setIfInBounds_toArray, List.set_cons_zero, List.set_cons_succ]
          refine takeH (i := 1) (v := ?_) rfl (by kernel_rfl) (by kernel_rfl) (by kernel_rfl) (fun _ _ _ h => h) (Or.inl ⟨by rfl, ?_⟩) hH ?_
          rotate_left
          · (intro w hSw; (try dsimp only at hSw); go_simp; try with_reducible rfl)
          simp only [Act.put, List.setIfInBounds_toArray, List.set_cons_zero, List.set_cons_succ]
          refine takeH (i := 2) (v := ?_) rfl (by kernel_rfl) (by kernel_rfl) (by kernel_rfl) (fun _ _ _ h => h) (Or.inl ⟨by rfl, ?_⟩) hH ?_
          rotate_left
          · (intro w hSw; (try dsimp only at hSw); go_simp; try with_reducible rfl)
          simp only [Act.put, List.setIfInBounds_toArray, List.set_cons_zero, List.set_cons_succ]
          refine takeH (i := 3) (v := ?_) rfl (by kernel_rfl) (by kernel_rfl) (by kernel_rfl) (fun _ _ _ h => h) (Or.inl ⟨by rfl, ?_⟩) hH ?_
          rotate_left
          · (intro w hSw; (try dsimp only at hSw); go_simp; try with_reducible rfl)
          simp only [Act.put, List.setIfInBounds_toArray, List.set_cons_zero, List.set_cons_succ]
          refine takeH (i := 5) (v := ?_) rfl (by kernel_rfl) (by kernel_rfl) (by kernel_rfl) (fun _ _ _ h => h) (Or.inl ⟨by rfl, ?_⟩) hH ?_
          rotate_left
          · (intro w hSw; (try dsimp only at hSw); go_simp; try with_reducible rfl)
          simp only [Act.put, List.setIfInBounds_toArray, List.set_cons_zero, List.set_cons_succ]
          refine takeH (i := 6) (v := ?_) rfl (by kernel_rfl) (by kernel_rfl) (by kernel_rfl) (fun _ _ _ h => h) (Or.inl ⟨by rfl, ?_⟩) hH ?_
          rotate_left
          · (intro w hSw; (try dsimp only at hSw); go_simp; try with_reducible rfl)
          simp only [Act.put, List.setIfInBounds_toArray, List.set_cons_zero, List.set_cons_succ]
          refine takeH (i := 7) (v := ?_) rfl (by kernel_rfl) (by kernel_rfl) (by kernel_rfl) (fun _ _ _ h => h) (Or.inl ⟨by rfl, ?_⟩) hH ?_
          rotate_left
          · (intro w hSw; (try dsimp only at hSw); go_simp; try with_reducible rfl)
          simp only [Act.put, List.setIfInBounds_toArray, List.set_cons_zero, List.set_cons_succ]
          refine takeH (i := 8) (v := ?_) rfl (by kernel_rfl) (by kernel_rfl) (by kernel_rfl) (fun _ _ _ h => h) (Or.inl ⟨by rfl, ?_⟩) hH ?_
          rotate_left
          · (intro w hSw; (try dsimp only at hSw); go_simp; try with_reducible rfl)
          simp only [Act.put, List.setIfInBounds_toArray, List.set_cons_zero, List.set_cons_succ]
          refine oneH (i := 4) rfl (by kernel_rfl) (fun K hK => ?_)
          go_simp
          go_at_call 60
          refine (HLN1.out _).mono ?_; rintro e w3 ⟨rfl, hB3⟩
          refine hK.out _ _ (HS.out _ hB3) (fun hH => ?_)
          clear hK K
          refine oneH (i := 9) rfl (by kernel_rfl) (fun K hK => ?_)
          go_simp
          go_at_call 31
          refine (HCK.out _ (HWB.out _ hB3)).mono ?_; rintro e w4 ⟨rfl, hB4⟩
          have hB5 := hB3.trans (hB4.mono hB3.size)
          refine hK.out _ _ (HS.out _ hB5) (fun hH => ?_)
          clear hK K
          refine takeH (i := 10) (v := ?_) rfl (by kernel_rfl) (by kernel_rfl) (by kernel_rfl) (fun _ _ _ h => h) (Or.inl ⟨by rfl, ?_⟩) hH ?_
          rotate_left
          · (intro w hSw; (try dsimp only at hSw); go_simp; try with_reducible rfl)
          simp only [Act.put, List.setIfInBounds_toArray, List.set_cons_zero, List.set_cons_succ]
          refine oneH (i := 11) rfl (by kernel_rfl) (fun K hK => ?_)
          go_simp
          refine hK.out _ _ (HS.out _ (below_al hB5 _)) (fun hH => ?_)
          clear hK K
          refine wpAnyH_done (by kernel_rfl) ?_ _
          unfold TailPost
          simp only [List.drop_succ_cons, List.drop_zero]
          have HB4 := hide hB5
          have hs4 := hB5.size
          have HO4 := hide (own_below HOD.out hB5)
          clear hH hB3 hB4 hB5 HCK HLN1 HS HWB
          go_wp2_with (at_builtin; refine wpList_append_all _ rfl (.tmp 45) (.tmp 56) _ rfl w1.heap.size 9 i0 _ 1 16 Tryz.underlying70 hi0 hz0 hz1 hz2 rfl (by omega) u9 i (strsV (L.take i)) rfl (HO4.out.alloc _) (some ⟨w4.heap.size, 0, none⟩) 1 1 [.string (LB ++ T)] rfl (by intro h; cases h) rfl (by intro ad' h; injection h with h; subst h; exact World.news_of_block (heap_alloc_new _ _)) one_str (by unfold maxLen; omega) (by omega) (by simp; omega) ?_)
          intro v' w' o1 o2
          have HB5 := hide (Below.grown (below_al (HBD.out.trans (HB4.out.mono hbsd)) (.cells #[.string (LB ++ T)] 9)) o2.out (by simp; omega) (fun k e => (HO4.out.lt k e).1))
          have HO5 := hide (show w'.ownsRow w1.heap.size 9 1 v' (i + 1) (strsV (L.take (i + 1))) by rw [HXX.out]; exact o1.out)
          clear o1 o2 HO4 HOD HB4 HBD HXX
          go_wp2_with fail
          go_roundw
          case rel => exact ⟨i + 1, by go_num, by omega, HB5, HO5⟩
          case measure => simp [intOf]; omega
        · obtain rfl : x = i := by omega
          obtain ⟨c0, c1, c2, c3, c4, c5⟩ := HC.out _ hB.out
          have HO1 := hide (show wr.ownsRow w1.heap.size 9 1 u9 x (strsV L) by
            have e : L.take x = L := by rw [← HLL.out, List.take_length]
            have := hO.out
            rw [e] at this; exact this)
          have HJ := hide fun W (h : Below wr.heap.size wr W) => joinC_run u9 L w1.heap.size W (by rw [HLL.out]; exact own_below HO1.out h) HSUM.out
          have HB1 := hide hB.out
          obtain ⟨A9, c9, rfl⟩ := own_form HO1.out
          clear hO hB hlt hi HI HX HLA HO1 ih
          go_wp2_with fail
          go_loopw [9, 16, 62] (fun ov _ iv W => ov = .slice A9 x c9 ∧ iv = .int .i64 0 ∧ W = wr) (fun _ _ _ _ => 0)
          case atStart => exact ⟨rfl, rfl, rfl⟩
          case round =>
            obtain ⟨rfl, rfl, e3⟩ := hrel
            subst e3
            by_cases hx0 : x = 0
            · subst hx0
              have HZ := hide (show res = ⟨#[91]⟩ ++ ⟨#[93]⟩ from HWR.out.trans (wrap_nil HLL.out))
              go_wp2_with fail
              go_ret
              exact ⟨ret_str HZ.out.symm, hwB⟩
            · have HZ := hide (show res = ⟨#[91]⟩ ++ joinC L ++ lineB false lv ++ ⟨#[93]⟩ from HWR.out.trans (wrap_cons (by rw [HLL.out]; exact hx0)))
              have hJs := Nat.le_trans (joinC_size L) HSUM.out
              have hLs := lineB_size false lv
              have hg1 : ((x : Int) == 0) = false := by simp; omega
              have HLM := hide fun W => HLN0.out W
              obtain ⟨J, hJ⟩ : ∃ J, J = joinC L := ⟨_, rfl⟩
              obtain ⟨LB, hLB⟩ : ∃ J, J = lineB false lv := ⟨_, rfl⟩
              rw [← hJ] at HJ HZ hJs
              rw [← hLB] at HLM HZ hLs
              have HCW := hide fun W (h : Below wr.heap.size wr W) => (HC.out W (HB1.out.trans (h.mono HB1.out.size))).1
              have ho1 : ¬ 9223372036854775807 < 1 + J.size := by omega
              have ho2 : ¬ 9223372036854775807 < 1 + J.size + LB.size := by omega
              have ho3 : ¬ 9223372036854775807 < 1 + J.size + LB.size + 1 := by omega
              clear hJ hLB HSUM HWR hx0
              go_upto_region 28 with fail
              obtain ⟨wd, hwd⟩ : ∃ W, W = wr.drew := ⟨_, rfl⟩
              have hBD : Below wr.heap.size wr wd := by rw [hwd]; exact (Below.refl _ _).drew
              have HJD := hide fun W (h : Below wd.heap.size wd W) => HJ.out W (hBD.trans (h.mono hBD.size))
              have HCD := hide fun W (h : Below wd.heap.size wd W) => HCW.out W (hBD.trans (h.mono hBD.size))
              have HBD := hide (hwB.trans (hBD.mono hwB.size))
              clear hBD HJ HCW hwB HB1 c0 c1 c2 c3 c4 c5
              refine region_two 9 (fun W => W.cell? ⟨gl, 0, none⟩ = some (.bool false)) (by kernel_rfl) (by kernel_rfl) (by rw [← hwd]; exact HCD.out _ (Below.refl _ _)) (fun hH => ?_)
              rw [← hwd] at hH ⊢
              clear hwd
              simp only [List.take_succ_cons, List.take_zero]
              refine takeH (i := 0) (v := ?_) rfl (by kernel_rfl) (by kernel_rfl) (by kernel_rfl) (fun _ _ _ h => h) (Or.inl ⟨by rfl, ?_⟩) hH ?_
              rotate_left
              · (intro w hSw; (try dsimp only at hSw); go_simp; try with_reducible rfl)
              simp only [Act.put, List.setIfInBounds_toArray, List.set_cons_zero, List.set_cons_succ]
              refine takeH (i := 1) (v := ?_) rfl (by kernel_rfl) (by kernel_rfl) (by kernel_rfl) (fun _ _ _ h => h) (Or.inl ⟨by rfl, ?_⟩) hH ?_
              rotate_left
              · (intro w hSw; (try dsimp only at hSw); go_simp; try with_reducible rfl)
              simp only [Act.put, List.setIfInBounds_toArray, List.set_cons_zero, List.set_cons_succ]
              refine takeH (i := 4) (v := ?_) rfl (by kernel_rfl) (by kernel_rfl) (by kernel_rfl) (fun _ _ _ h => h) (Or.inl ⟨by rfl, ?_⟩) hH ?_
              rotate_left
              · (intro w hSw; (try dsimp only at hSw); go_simp; try with_reducible rfl)
              simp only [Act.put, List.setIfInBounds_toArray, List.set_cons_zero, List.set_cons_succ]
              refine takeH (i := 5) (v := ?_) rfl (by kernel_rfl) (by kernel_rfl) (by kernel_rfl) (fun _ _ _ h => h) (Or.inl ⟨by rfl, ?_⟩) hH ?_
              rotate_left
              · (intro w hSw; (try dsimp only at hSw); go_simp; try with_reducible rfl)
              simp only [Act.put, List.setIfInBounds_toArray, List.set_cons_zero, List.set_cons_succ]
              refine takeH (i := 8) (v := ?_) rfl (by kernel_rfl) (by kernel_rfl) (by kernel_rfl) (fun _ _ _ h => h) (Or.inl ⟨by rfl, ?_⟩) hH ?_
              rotate_left
              · (intro w hSw; (try dsimp only at hSw); go_simp; try with_reducible rfl)
              simp only [Act.put, List.setIfInBounds_toArray, List.set_cons_zero, List.set_cons_succ]
              refine oneH (i := 2) rfl (by kernel_rfl) (fun K hK => ?_)
              go_simp
              go_at_call 61
              refine (HJD.out _ (Below.refl _ _)).mono ?_; rintro e w3 ⟨rfl, hB3⟩
              refine hK.out _ _ (HCD.out _ hB3) (fun hH => ?_)
              clear hK K
              refine takeH (i := 3) (v := ?_) rfl (by kernel_rfl) (by kernel_rfl) (by kernel_rfl) (fun _ _ _ h => h) (Or.inl ⟨by rfl, ?_⟩) hH ?_
              rotate_left
              · (intro w hSw; (try dsimp only at hSw); go_simp; try with_reducible rfl)
              simp only [Act.put, List.setIfInBounds_toArray, List.set_cons_zero, List.set_cons_succ]
              refine oneH (i := 6) rfl (by kernel_rfl) (fun K hK => ?_)
              go_simp
              go_at_call 60
              refine (HLM.out _).mono ?_; rintro e w4 ⟨rfl, hB4⟩
              have hB5 := hB3.trans (hB4.mono hB3.size)
              refine hK.out _ _ (HCD.out _ hB5) (fun hH => ?_)
              clear hK K
              refine takeH (i := 7) (v := ?_) rfl (by kernel_rfl) (by kernel_rfl) (by kernel_rfl) (fun _ _ _ h => h) (Or.inl ⟨by rfl, ?_⟩) hH ?_
              rotate_left
              · (intro w hSw; (try dsimp only at hSw); go_simp; try with_reducible rfl)
              simp only [Act.put, List.setIfInBounds_toArray, List.set_cons_zero, List.set_cons_succ]
              refine wpAnyH_done (by kernel_rfl) ?_ _
              unfold TailPost
              simp only [List.drop_succ_cons, List.drop_zero]
              have HB6 := hide (HBD.out.trans (hB5.mono HBD.out.size))
              clear hH hB3 hB4 hB5 HJD HLM HCD HBD
              go_wp2_with fail
              go_ret
              exact ⟨ret_str HZ.out.symm, HB6.out⟩
    · have k6 : kD d = 6 := by omega
      have hm0 : iD d = [] := by rcases hiN with h | h; omega; exact h
      have hi2 : (mD d).length ≤ 1000000000 := by
        have := sumN_len (fun x : ByteArray × Dt => 100 + 6 * x.1.size + jbF m x.2) (fun x => by omega) (mD d)
        rw [jbF] at hbd; omega
      have HI := hide fun i x (h : (mD d)[i]? = some x) => And.intro (hM i x h) (And.intro (show x.1.size + jbF m x.2 ≤ 1000000000 by have := hb2 x (List.mem_of_getElem? h); omega) (And.intro (show 6 * x.1.size ≤ 1000000000 by have := sumN_le (fun x : ByteArray × Dt => 100 + 6 * x.1.size + jbF m x.2) (List.mem_of_getElem? h); rw [jbF] at hbd; omega) (And.intro (hkz x.2 (ms_kid (List.mem_of_getElem? h))) (jtF_le false m r' (lv + 1) x.2 (by omega) (hkz x.2 (ms_kid (List.mem_of_getElem? h)))))))
      obtain ⟨L, hL⟩ : ∃ L, L = jparts false lv (jtF false m (lv + 1)) d := ⟨_, rfl⟩
      rw [← hL] at HWR htb
      rw [mems_one hm0] at hL
      have HSUM := hide (show sumN (fun x : ByteArray => x.size + 1) L ≤ 1000000000 by have := sum_one (l := L); omega)
      rw [k6] at HWR
      obtain ⟨xs, hxs⟩ : ∃ k, k = mD d := ⟨_, rfl⟩
      unfold datV datCs
      rw [k6, hm0]
      rw [← hxs] at HI h3 hi2 hL
      obtain ⟨n, hn'⟩ : ∃ k, k = nD d := ⟨_, rfl⟩
      obtain ⟨s, hs⟩ : ∃ k, k = sD d := ⟨_, rfl⟩
      obtain ⟨x, hx⟩ : ∃ k, k = xs.length := ⟨_, rfl⟩
      rw [← hn', ← hs, ← hxs, ← hx]
      rw [← hx] at h3 hi2
      rw [show ((([] : List Dt).length : Nat)) = 0 from rfl]
      have HLL := hide (show L.length = x by rw [hL, List.length_map, hx])
      have HLA := hide (show ∀ i X, xs[i]? = some X → L[i]? = some (jpartM false lv (jtF false m (lv + 1)) X) from fun i X h => by rw [hL, List.getElem?_map, h]; rfl)
      have HX := Lib.hid hx
      clear hn' hs hx hxs hL hI hM hb1 hb2 htb hbd ht hpt hiN hmN hm0 hkz hown hcz hres h1 h2 h4 hRL hBL0 k4 k123 k5 k6 hk1 hk6 hsz hm
      go_enter Tryz.func31, Tryz.ntmps31
      go_upto_region 1 with fail
      rw [← hwL]
      obtain ⟨w1, g, e1, e2, hBL, c0, c1, c2, c3, c4, hROW⟩ := boxD wL 6 n s (.slice A 0 c) (.slice A' x c')
      rw [e1, show w.heap.size + 1 = g by rw [← e2, hwL]; simp, ← hgl]
      have HC := hide fun W (h : Below w1.heap.size w1 W) => (And.intro ((HRL.out.below (hBL.trans (h.mono hBL.size))).cell 0) (row5 (hROW.below h)) : W.cell? ⟨gl, 0, none⟩ = some (.bool false) ∧ _)
      have q0 : w1.cell? ⟨gl, 0, none⟩ = some (.bool false) := (HRL.out.below hBL).cell 0
      have HBL := hide (HB0.out.trans (hBL.mono HB0.out.size))
      have hgl1 : gl < w1.heap.size := (HRL.out.below hBL).lt
      have hg1 : g < w1.heap.size := hROW.lt
      clear e1 e2 hwL hgl hBL hROW HRL HB0
      go_wp2_with fail
      go_loopw [9, 14, 41] (fun ov _ iv W => ov = .slice none 0 0 ∧ iv = .int .i64 0 ∧ W = w1) (fun _ _ _ _ => 0)
      case atStart => exact ⟨rfl, rfl, rfl⟩
      case round =>
        obtain ⟨rfl, rfl, e3⟩ := hrel
        have e3 := e3.symm
        subst e3
        go_wp2_with fail
        go_loopw [9, 16, 62] (fun ov _ iv W => ∃ i : Nat, iv = .int .i64 i ∧ i ≤ x ∧ Hid (Below w1.heap.size w1 W) ∧ Hid (W.ownsRow w1.heap.size 9 1 ov i (strsV (L.take i)))) (fun _ _ iv _ => x - (intOf iv).toNat)
        case atStart => exact ⟨0, rfl, Nat.zero_le _, hide (Below.refl _ _), hide (World.ownsRow_nil _ _ _ _)⟩
        case round =>
          obtain ⟨i, rfl, hi, hB, hO⟩ := hrel
          have hwB := HBL.out.trans (hB.out.mono HBL.out.size)
          by_cases hlt : i < x
          · have hlt' : i < xs.length := by rw [← HX.out]; exact hlt
            obtain ⟨⟨ad, rfl, hb, hlab, a, q, a', q', hfive, hpts⟩, htx, hls, hcx, htl⟩ := HI.out i _ (List.getElem?_eq_getElem hlt')
            obtain ⟨X, hX⟩ : ∃ X, X = xs[i] := ⟨_, rfl⟩
            rw [← hX] at hlab hfive hpts htx hls hcx htl
            have hbb : (ad.add (i * 6)).block < w.heap.size := by rw [block_of_add]; exact hb
            obtain ⟨s0, s1, s2, s3, s4, s5⟩ := six_of ((hwB.cell (p := ad.add (i * 6)) hbb).trans hlab) (hfive.same (p := ⟨_, _, none⟩) hbb (Same.of_below hwB))
            have HCK := hide fun w' (hB' : Below w.heap.size w w') => ih r' (lv + 1) X.2 a q a' q' w' (by omega) hcx (hpts.turn (Same.of_below hB') hB'.size) (by omega) (HTAB.out _ hB')
            have HXX := hide (show strsV (L.take (i + 1)) = strsV (L.take i) ++ [.string (jpartM false lv (jtF false m (lv + 1)) X)] by
              rw [List.take_add_one, HLA.out i _ (List.getElem?_eq_getElem hlt'), strsV_append, hX]; rfl)
            unfold jpartM at HXX
            unfold datV datCs at HCK
            obtain ⟨T, hT⟩ : ∃ T, T = jtF false m (lv + 1) X.2 := ⟨_, rfl⟩
            obtain ⟨LB, hLB⟩ : ∃ T, T = lineB false (lv + 1) := ⟨_, rfl⟩
            have hls : LB.size ≤ 100 := by rw [hLB]; have := lineB_size false (lv + 1); omega
            rw [← hT] at HCK HXX htl
            rw [← hLB] at HXX
            have HQT := hide fun W => quoted_run X.1 (by omega) W
            have hqs := jqB_size X.1
            obtain ⟨QT, hQT⟩ : ∃ T, T = jqB X.1 := ⟨_, rfl⟩
            rw [← hQT] at HQT HXX hqs
            have hcol : colB false = ⟨#[58]⟩ := rfl
            rw [hcol] at HXX
            have HLN1 := hide fun W => (HLN.out W)
            rw [← hLB] at HLN1
            rw [hcast] at HCK
            have hq1 : QT.size ≤ 1100000000 := by omega
            have hov1 : ¬ 9223372036854775807 < LB.size + QT.size := by omega
            have hov2 : ¬ 9223372036854775807 < LB.size + QT.size + 1 := by omega
            have hov3 : ¬ 9223372036854775807 < LB.size + QT.size + 1 + T.size := by omega
            obtain ⟨c0, c1, c2, c3, c4, c5⟩ := HC.out _ hB.out
            clear hlab hfive hpts hX hlt' hb hbb hT hLB hQT hcol htx hcx htl hls hqs
            go_upto_region 24 with fail
            obtain ⟨wa, hwa⟩ : ∃ wa, wa = wr.alloc (Obj.cells #[Value.string X.1, Value.int IntKind.i64 (kD X.2), Value.int IntKind.i64 (nD X.2), Value.string (sD X.2), Value.slice a (iD X.2).length q, Value.slice a' (mD X.2).length q'] 57) := ⟨_, rfl⟩
            obtain ⟨b, hbb⟩ : ∃ b, b = wr.heap.size := ⟨_, rfl⟩
            have hR : Row wa b 57 [Value.string X.1, Value.int IntKind.i64 (kD X.2), Value.int IntKind.i64 (nD X.2), Value.string (sD X.2), Value.slice a (iD X.2).length q, Value.slice a' (mD X.2).length q'] := by rw [hwa, hbb]; exact Row.new wr _ _
            have HBA := hide (show Below w1.heap.size w1 wa by rw [hwa]; exact below_al hB.out _)
            have HOA := hide (show wa.ownsRow w1.heap.size 9 1 u9 i (strsV (L.take i)) by rw [hwa]; exact hO.out.alloc _)
            have hS0 : w1.heap.size ≤ wa.heap.size := HBA.out.size
            rw [← hwa, ← hbb]
            clear hwa hbb
            obtain ⟨wd, hwd⟩ : ∃ W, W = wa.drew := ⟨_, rfl⟩
            have hBD : Below wa.heap.size wa wd := by rw [hwd]; exact (Below.refl _ _).drew
            have hsd : wd.heap.size = wa.heap.size := by rw [hwd]; rfl
            have hRD := hR.below hBD
            have HBD := hide (HBA.out.trans (hBD.mono hS0))
            have HOD := hide (own_below HOA.out hBD)
            have hbsd := HBD.out.size
            have HS := hide fun W (h : Below wd.heap.size wd W) => (And.intro (HC.out W (HBD.out.trans (h.mono hbsd))).1 (row6 (hRD.below h)) : W.cell? ⟨gl, 0, none⟩ = some (.bool false) ∧ _)
            have HWB := hide fun W (h : Below wd.heap.size wd W) => HBL.out.trans ((HBD.out.trans (h.mono hbsd)).mono HBL.out.size)
            clear hR hRD hBD HBA HOA hS0 hsd s0 s1 s2 s3 s4 hB hO hwB c0 c1 c2 c3 c4 c5
            refine region_two 19 (fun W => W.cell? ⟨gl, 0, none⟩ = some (.bool false) ∧ W.cell? ⟨b, 0, none⟩ = some (.string X.1) ∧ W.cell? ⟨b, 1, none⟩ = some (.int .i64 (kD X.2)) ∧ W.cell? ⟨b, 2, none⟩ = some (.int .i64 (nD X.2)) ∧ W.cell? ⟨b, 3, none⟩ = some (.string (sD X.2)) ∧
                W.cell? ⟨b, 4, none⟩ = some (.slice a (iD X.2).length q) ∧ W.cell? ⟨b, 5, none⟩ = some (.slice a' (mD X.2).length q')) (by kernel_rfl) (by kernel_rfl) (by rw [← hwd]; exact HS.out _ (Below.refl _ _)) (fun hH => ?_)
            rw [← hwd] at hH ⊢
            clear hwd
            simp only [List.take_succ_cons, List.take_zero]
            refine takeH (i := 0) (v := ?_) rfl (by kernel_rfl) (by kernel_rfl) (by kernel_rfl) (fun _ _ _ h => h) (Or.inl ⟨by rfl, ?_⟩) hH ?_
            rotate_left
            · (intro w hSw; (try dsimp only at hSw); go_simp; try with_reducible rfl)
            simp only [Act.put, List.setIfInBounds_toArray, List.set_cons_zero, List.set_cons_succ]
            refine takeH (i := 1) (v := ?_) rfl (by kernel_rfl) (by kernel_rfl) (by kernel_rfl) (fun _ _ _ h => h) (Or.inl ⟨by rfl, ?_⟩) hH ?_
            rotate_left
            · (intro w hSw; (try dsimp only at hSw); go_simp; try with_reducible rfl)
            simp only [Act.put, List.setIfInBounds_toArray, List.set_cons_zero, List.set_cons_succ]
            refine takeH (i := 2) (v := ?_) rfl (by kernel_rfl) (by kernel_rfl) (by kernel_rfl) (fun _ _ _ h => h) (Or.inl ⟨by rfl, ?_⟩) hH ?_
            rotate_left
            · (intro w hSw; (try dsimp only at hSw); go_simp; try with_reducible rfl)
            simp only [Act.put, List.setIfInBounds_toArray, List.set_cons_zero, List.set_cons_succ]
            refine takeH (i := 3) (v := ?_) rfl (by kernel_rfl) (by kernel_rfl) (by kernel_rfl) (fun _ _ _ h => h) (Or.inl ⟨by rfl, ?_⟩) hH ?_
            rotate_left
            · (intro w hSw; (try dsimp only at hSw); go_simp; try with_reducible rfl)
            simp only [Act.put, List.setIfInBounds_toArray, List.set_cons_zero, List.set_cons_succ]
            refine takeH (i := 5) (v := ?_) rfl (by kernel_rfl) (by kernel_rfl) (by kernel_rfl) (fun _ _ _ h => h) (Or.inl ⟨by rfl, ?_⟩) hH ?_
            rotate_left
            · (intro w hSw; (try dsimp only at hSw); go_simp; try with_reducible rfl)
            simp only [Act.put, List.setIfInBounds_toArray, List.set_cons_zero, List.set_cons_succ]
            refine takeH (i := 6) (v := ?_) rfl (by kernel_rfl) (by kernel_rfl) (by kernel_rfl) (fun _ _ _ h => h) (Or.inl ⟨by rfl, ?_⟩) hH ?_
            rotate_left
            · (intro w hSw; (try dsimp only at hSw); go_simp; try with_reducible rfl)
            simp only [Act.put, List.setIfInBounds_toArray, List.set_cons_zero, List.set_cons_succ]
            refine takeH (i := 9) (v := ?_) rfl (by kernel_rfl) (by kernel_rfl) (by kernel_rfl) (fun _ _ _ h => h) (Or.inl ⟨by rfl, ?_⟩) hH ?_
            rotate_left
            · (intro w hSw; (try dsimp only at hSw); go_simp; try with_reducible rfl)
            simp only [Act.put, List.setIfInBounds_toArray, List.set_cons_zero, List.set_cons_succ]
            refine takeH (i := 11) (v := ?_) rfl (by kernel_rfl) (by kernel_rfl) (by kernel_rfl) (fun _ _ _ h => h) (Or.inl ⟨by rfl, ?_⟩) hH ?_
            rotate_left
            · (intro w hSw; (try dsimp only at hSw); go_simp; try with_reducible rfl)
            simp only [Act.put, List.setIfInBounds_toArray, List.set_cons_zero, List.set_cons_succ]
            refine takeH (i := 12) (v := ?_) rfl (by kernel_rfl) (by kernel_rfl) (by kernel_rfl) (fun _ _ _ h => h) (Or.inl ⟨by rfl, ?_⟩) hH ?_
            rotate_left
            · (intro w hSw; (try dsimp only at hSw); go_simp; try with_reducible rfl)
            simp only [Act.put, List.setIfInBounds_toArray, List.set_cons_zero, List.set_cons_succ]
            refine takeH (i := 13) (v := ?_) rfl (by kernel_rfl) (by kernel_rfl) (by kernel_rfl) (fun _ _ _ h => h) (Or.inl ⟨by rfl, ?_⟩) hH ?_
            rotate_left
            · (intro w hSw; (try dsimp only at hSw); go_simp; try with_reducible rfl)
            simp only [Act.put, List.setIfInBounds_toArray, List.set_cons_zero, List.set_cons_succ]
            refine takeH (i := 14) (v := ?_) rfl (by kernel_rfl) (by kernel_rfl) (by kernel_rfl) (fun _ _ _ h => h) (Or.inl ⟨by rfl, ?_⟩) hH ?_
            rotate_left
            · (intro w hSw; (try dsimp only at hSw); go_simp; try with_reducible rfl)
            simp only [Act.put, List.setIfInBounds_toArray, List.set_cons_zero, List.set_cons_succ]
            refine takeH (i := 15) (v := ?_) rfl (by kernel_rfl) (by kernel_rfl) (by kernel_rfl) (fun _ _ _ h => h) (Or.inl ⟨by rfl, ?_⟩) hH ?_
            rotate_left
            · (intro w hSw; (try dsimp only at hSw); go_simp; try with_reducible rfl)
            simp only [Act.put, List.setIfInBounds_toArray, List.set_cons_zero, List.set_cons_succ]
            refine oneH (i := 4) rfl (by kernel_rfl) (fun K hK => ?_)
            go_simp
            go_at_call 60
            refine (HLN1.out _).mono ?_; rintro e w3 ⟨rfl, hB3⟩
            refine hK.out _ _ (HS.out _ hB3) (fun hH => ?_)
            clear hK K
            refine oneH (i := 7) rfl (by kernel_rfl) (fun K hK => ?_)
            go_simp
            go_at_call 58
            refine (HQT.out _).mono ?_; rintro e w5 ⟨rfl, hB6⟩
            have hB3 := hB3.trans (hB6.mono hB3.size)
            refine hK.out _ _ (HS.out _ hB3) (fun hH => ?_)
            clear hK K
            refine takeH (i := 8) (v := ?_) rfl (by kernel_rfl) (by kernel_rfl) (by kernel_rfl) (fun _ _ _ h => h) (Or.inl ⟨by rfl, ?_⟩) hH ?_
            rotate_left
            · (intro w hSw; (try dsimp only at hSw); go_simp; try with_reducible rfl)
            simp only [Act.put, List.setIfInBounds_toArray, List.set_cons_zero, List.set_cons_succ]
            refine takeH (i := 10) (v := ?_) rfl (by kernel_rfl) (by kernel_rfl) (by kernel_rfl) (fun _ _ _ h => h) (Or.inl ⟨by rfl, ?_⟩) hH ?_
            rotate_left
            · (intro w hSw; (try dsimp only at hSw); go_simp; try with_reducible rfl)
            simp only [Act.put, List.setIfInBounds_toArray, List.set_cons_zero, List.set_cons_succ]
            refine oneH (i := 16) rfl (by kernel_rfl) (fun K hK => ?_)
            go_simp
            go_at_call 31
            refine (HCK.out _ (HWB.out _ hB3)).mono ?_; rintro e w4 ⟨rfl, hB4⟩
            have hB5 := hB3.trans (hB4.mono hB3.size)
            refine hK.out _ _ (HS.out _ hB5) (fun hH => ?_)
            clear hK K
            refine takeH (i := 17) (v := ?_) rfl (by kernel_rfl) (by kernel_rfl) (by kernel_rfl) (fun _ _ _ h => h) (Or.inl ⟨by rfl, ?_⟩) hH ?_
            rotate_left
            · (intro w hSw; (try dsimp only at hSw); go_simp; try with_reducible rfl)
            simp only [Act.put, List.setIfInBounds_toArray, List.set_cons_zero, List.set_cons_succ]
            refine oneH (i := 18) rfl (by kernel_rfl) (fun K hK => ?_)
            go_simp
            refine hK.out _ _ (HS.out _ (below_al hB5 _)) (fun hH => ?_)
            clear hK K
            refine wpAnyH_done (by kernel_rfl) ?_ _
            unfold TailPost
            simp only [List.drop_succ_cons, List.drop_zero]
            have HB4 := hide hB5
            have hs4 := hB5.size
            have HO4 := hide (own_below HOD.out hB5)
            clear hH hB3 hB4 hB5 HCK HLN1 HS HWB HQT
            go_wp2_with (at_builtin; refine wpList_append_all _ rfl (.tmp 66) (.tmp 84) _ rfl w1.heap.size 9 i0 _ 1 16 Tryz.underlying70 hi0 hz0 hz1 hz2 rfl (by omega) u9 i (strsV (L.take i)) rfl (HO4.out.alloc _) (some ⟨w4.heap.size, 0, none⟩) 1 1 [.string (LB ++ QT ++ ⟨#[58]⟩ ++ T)] rfl (by intro h; cases h) rfl (by intro ad' h; injection h with h; subst h; exact World.news_of_block (heap_alloc_new _ _)) one_str (by unfold maxLen; omega) (by omega) (by simp; omega) ?_)
            intro v' w' o1 o2
            have HB5 := hide (Below.grown (below_al (HBD.out.trans (HB4.out.mono hbsd)) (.cells #[.string (LB ++ QT ++ ⟨#[58]⟩ ++ T)] 9)) o2.out (by simp; omega) (fun k e => (HO4.out.lt k e).1))
            have HO5 := hide (show w'.ownsRow w1.heap.size 9 1 v' (i + 1) (strsV (L.take (i + 1))) by rw [HXX.out]; exact o1.out)
            clear o1 o2 HO4 HOD HB4 HBD HXX
            go_wp2_with fail
            go_roundw
            case rel => exact ⟨i + 1, by go_num, by omega, HB5, HO5⟩
            case measure => simp [intOf]; omega
          · obtain rfl : x = i := by omega
            obtain ⟨c0, c1, c2, c3, c4, c5⟩ := HC.out _ hB.out
            have HO1 := hide (show wr.ownsRow w1.heap.size 9 1 u9 x (strsV L) by
              have e : L.take x = L := by rw [← HLL.out, List.take_length]
              have := hO.out
              rw [e] at this; exact this)
            have HJ := hide fun W (h : Below wr.heap.size wr W) => joinC_run u9 L w1.heap.size W (by rw [HLL.out]; exact own_below HO1.out h) HSUM.out
            have HB1 := hide hB.out
            obtain ⟨A9, c9, rfl⟩ := own_form HO1.out
            clear hO hB hlt hi HI HX HLA HO1 ih
            by_cases hx0 : x = 0
            · subst hx0
              have HZ := hide (show res = ⟨#[123]⟩ ++ ⟨#[125]⟩ from HWR.out.trans (wrap_nil HLL.out))
              go_wp2_with fail
              go_ret
              exact ⟨ret_str HZ.out.symm, hwB⟩
            · have HZ := hide (show res = ⟨#[123]⟩ ++ joinC L ++ lineB false lv ++ ⟨#[125]⟩ from HWR.out.trans (wrap_cons (by rw [HLL.out]; exact hx0)))
              have hJs := Nat.le_trans (joinC_size L) HSUM.out
              have hLs := lineB_size false lv
              have hg1 : ((x : Int) == 0) = false := by simp; omega
              have HLM := hide fun W => HLN0.out W
              obtain ⟨J, hJ⟩ : ∃ J, J = joinC L := ⟨_, rfl⟩
              obtain ⟨LB, hLB⟩ : ∃ J, J = lineB false lv := ⟨_, rfl⟩
              rw [← hJ] at HJ HZ hJs
              rw [← hLB] at HLM HZ hLs
              have HCW := hide fun W (h : Below wr.heap.size wr W) => (HC.out W (HB1.out.trans (h.mono HB1.out.size))).1
              have ho1 : ¬ 9223372036854775807 < 1 + J.size := by omega
              have ho2 : ¬ 9223372036854775807 < 1 + J.size + LB.size := by omega
              have ho3 : ¬ 9223372036854775807 < 1 + J.size + LB.size + 1 := by omega
              clear hJ hLB HSUM HWR hx0
              go_upto_region 28 with fail
              obtain ⟨wd, hwd⟩ : ∃ W, W = wr.drew := ⟨_, rfl⟩
              have hBD : Below wr.heap.size wr wd := by rw [hwd]; exact (Below.refl _ _).drew
              have HJD := hide fun W (h : Below wd.heap.size wd W) => HJ.out W (hBD.trans (h.mono hBD.size))
              have HCD := hide fun W (h : Below wd.heap.size wd W) => HCW.out W (hBD.trans (h.mono hBD.size))
              have HBD := hide (hwB.trans (hBD.mono hwB.size))
              clear hBD HJ HCW hwB HB1 c0 c1 c2 c3 c4 c5
              refine region_two 9 (fun W => W.cell? ⟨gl, 0, none⟩ = some (.bool false)) (by kernel_rfl) (by kernel_rfl) (by rw [← hwd]; exact HCD.out _ (Below.refl _ _)) (fun hH => ?_)
              rw [← hwd] at hH ⊢
              clear hwd
              simp only [List.take_succ_cons, List.take_zero]
              refine takeH (i := 0) (v := ?_) rfl (by kernel_rfl) (by kernel_rfl) (by kernel_rfl) (fun _ _ _ h => h) (Or.inl ⟨by rfl, ?_⟩) hH ?_
              rotate_left
              · (intro w hSw; (try dsimp only at hSw); go_simp; try with_reducible rfl)
              simp only [Act.put, List.setIfInBounds_toArray, List.set_cons_zero, List.set_cons_succ]
              refine takeH (i := 1) (v := ?_) rfl (by kernel_rfl) (by kernel_rfl) (by kernel_rfl) (fun _ _ _ h => h) (Or.inl ⟨by rfl, ?_⟩) hH ?_
              rotate_left
              · (intro w hSw; (try dsimp only at hSw); go_simp; try with_reducible rfl)
              simp only [Act.put, List.setIfInBounds_toArray, List.set_cons_zero, List.set_cons_succ]
              refine takeH (i := 4) (v := ?_) rfl (by kernel_rfl) (by kernel_rfl) (by kernel_rfl) (fun _ _ _ h => h) (Or.inl ⟨by rfl, ?_⟩) hH ?_
              rotate_left
              · (intro w hSw; (try dsimp only at hSw); go_simp; try with_reducible rfl)
              simp only [Act.put, List.setIfInBounds_toArray, List.set_cons_zero, List.set_cons_succ]
              refine takeH (i := 5) (v := ?_) rfl (by kernel_rfl) (by kernel_rfl) (by kernel_rfl) (fun _ _ _ h => h) (Or.inl ⟨by rfl, ?_⟩) hH ?_
              rotate_left
              · (intro w hSw; (try dsimp only at hSw); go_simp; try with_reducible rfl)
              simp only [Act.put, List.setIfInBounds_toArray, List.set_cons_zero, List.set_cons_succ]
              refine takeH (i := 8) (v := ?_) rfl (by kernel_rfl) (by kernel_rfl) (by kernel_rfl) (fun _ _ _ h => h) (Or.inl ⟨by rfl, ?_⟩) hH ?_
              rotate_left
              · (intro w hSw; (try dsimp only at hSw); go_simp; try with_reducible rfl)
              simp only [Act.put, List.setIfInBounds_toArray, List.set_cons_zero, List.set_cons_succ]
              refine oneH (i := 2) rfl (by kernel_rfl) (fun K hK => ?_)
              go_simp
              go_at_call 61
              refine (HJD.out _ (Below.refl _ _)).mono ?_; rintro e w3 ⟨rfl, hB3⟩
              refine hK.out _ _ (HCD.out _ hB3) (fun hH => ?_)
              clear hK K
              refine takeH (i := 3) (v := ?_) rfl (by kernel_rfl) (by kernel_rfl) (by kernel_rfl) (fun _ _ _ h => h) (Or.inl ⟨by rfl, ?_⟩) hH ?_
              rotate_left
              · (intro w hSw; (try dsimp only at hSw); go_simp; try with_reducible rfl)
              simp only [Act.put, List.setIfInBounds_toArray, List.set_cons_zero, List.set_cons_succ]
              refine oneH (i := 6) rfl (by kernel_rfl) (fun K hK => ?_)
              go_simp
              go_at_call 60
              refine (HLM.out _).mono ?_; rintro e w4 ⟨rfl, hB4⟩
              have hB5 := hB3.trans (hB4.mono hB3.size)
              refine hK.out _ _ (HCD.out _ hB5) (fun hH => ?_)
              clear hK K
              refine takeH (i := 7) (v := ?_) rfl (by kernel_rfl) (by kernel_rfl) (by kernel_rfl) (fun _ _ _ h => h) (Or.inl ⟨by rfl, ?_⟩) hH ?_
              rotate_left
              · (intro w hSw; (try dsimp only at hSw); go_simp; try with_reducible rfl)
              simp only [Act.put, List.setIfInBounds_toArray, List.set_cons_zero, List.set_cons_succ]
              refine wpAnyH_done (by kernel_rfl) ?_ _
              unfold TailPost
              simp only [List.drop_succ_cons, List.drop_zero]
              have HB6 := hide (HBD.out.trans (hB5.mono HBD.out.size))
              clear hH hB3 hB4 hB5 HJD HLM HCD HBD
              go_wp2_with fail
              go_ret
              exact ⟨ret_str HZ.out.symm, HB6.out⟩
end Go.Proofs.YtmmbbndoimleaaaGreatDoor
