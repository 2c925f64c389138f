/- text of package jsontext's layout, indent true; laid, Text, Indent of package jsontext; clean: data with sorted members and without unused fields; Make. -/
import Derived.Test.YtmmbbndoimleaaaDoorGAF
import Derived.Test.YtmmbbndoimleaaaDoorGAE
import Derived.Test.YtmmbbndoimleaaaDoorGAB

/- text of package jsontext's layout, indent true. -/
namespace Go.Proofs.YtmmbbndoimleaaaDoor
open Go.RowKit

set_option maxRecDepth 100000 in
set_option maxHeartbeats 4000000 in
theorem jtext_true : ∀ (m r lv : Nat) (d : Dt) (A : Option Addr) (c : Nat) (A' : Option Addr) (c' : Nat) (w : World), lv + r ≤ 16 → checkF r d = 0 → Parts w w.heap.size m d A c A' c' → jbF m d ≤ 1000000000 → Tab w →
    Calls Tryd.prog 31 #[.agg #[.bool true], datV d A c A' c', .int .i64 lv] w fun e w' => e = .returned (.string (jtF true m lv d)) ∧ Below w.heap.size w w' := by
  intro m
  induction m with
  | zero => intro r lv d A c A' c' w _ _ hp _ _; exact hp.elim
  | succ m ih =>
    intro r lv d A c A' c' w hlv hcz hp hbd ht
    have hpt := hp
    obtain ⟨r', rfl, hown, hkz⟩ := valid_kid hcz
    obtain ⟨⟨hk1, hk6⟩, _, _, hiN, hmN, _⟩ := valid_fields hown
    have htb := jparts_le true m lv (by omega) (jtF true m (lv + 1)) d (fun x hx => jtF_le true m r' (lv + 1) x (by omega) (hkz x hx))
    have hsz : (sD d).size ≤ 166700000 := by omega
    obtain ⟨hb1, hb2⟩ := jbF_kids (m := m) (d := d)
    obtain ⟨⟨h1, h2, h3, h4⟩, hI, hM⟩ := hp
    have hm := maxLen_le h2; have hm' := maxLen_le h4
    have hlv16 : lv ≤ 16 := by omega
    have hcast : ((lv + 1 : Nat) : Int) = (lv : Int) + 1 := by omega
    have hwrap : IntKind.i64.wrap ((lv : Int) + 1) = (lv : Int) + 1 := IntWalk.i64_in _ (by omega)
    have HTAB := hide fun W (hB : Below w.heap.size w W) => tab_below ht hB
    obtain ⟨i0, hi0, hz0, hz1, hz2⟩ := info_parts infoS
    obtain ⟨res, hres⟩ : ∃ r, r = jtF true (m + 1) lv d := ⟨_, rfl⟩
    rw [← hres]
    have HLN := hide fun W => line_run true (lv + 1) (by omega) W
    have HLN0 := hide fun W => line_run true lv (by omega) W
    rw [hcast] at HLN
    obtain ⟨wL, hwL⟩ : ∃ W, W = w.alloc (.cells #[.bool true] 53) := ⟨_, rfl⟩
    obtain ⟨gl, hgl⟩ : ∃ g, g = w.heap.size := ⟨_, rfl⟩
    have hRL : Row wL gl 53 [.bool true] := by rw [hwL, hgl]; exact Row.new w _ _
    have hBL0 : Below w.heap.size w wL := by rw [hwL]; exact (Below.refl _ _).alloc (Nat.le_refl _) _
    by_cases k4 : kD d = 4
    · have HZ := hide (show res = jqB (sD d) by rw [hres, jt_str k4])
      have HQ := hide fun W => quoted_run (sD d) hsz W
      unfold datV datCs
      rw [k4]
      obtain ⟨n, hn'⟩ : ∃ k, k = nD d := ⟨_, rfl⟩
      obtain ⟨s, hs⟩ : ∃ k, k = sD d := ⟨_, rfl⟩
      obtain ⟨x, hx⟩ : ∃ k, k = (iD d).length := ⟨_, rfl⟩
      obtain ⟨y, hy⟩ : ∃ k, k = (mD d).length := ⟨_, rfl⟩
      rw [← hn', ← hs, ← hx, ← hy]
      rw [← hs] at HQ HZ
      have HRL := hide hRL; have HB0 := hide hBL0
      clear hn' hs hx hy hI hM hb1 hb2 htb hbd ht hpt hiN hmN hkz hown hcz hres h1 h2 h3 h4 hRL hBL0 k4 hk1 hk6 ih HLN HLN0 HTAB hz0 hz1 hz2 hsz hm hm'
      go_enter Tryd.func31, Tryd.ntmps31
      go_upto_region 1 with fail
      rw [← hwL]
      obtain ⟨w1, g, e1, e2, hBL, c0, c1, c2, c3, c4, hROW⟩ := boxD wL 4 n s (.slice A x c) (.slice A' y c')
      rw [e1, show w.heap.size + 1 = g by rw [← e2, hwL]; simp, ← hgl]
      have q0 : w1.cell? ⟨gl, 0, none⟩ = some (.bool true) := (HRL.out.below hBL).cell 0
      have HBL := hide (HB0.out.trans (hBL.mono HB0.out.size))
      clear e1 e2 hwL hgl hBL hROW HRL HB0
      go_wp2_with fail
      refine (HQ.out _).mono ?_; rintro e w4 ⟨rfl, hB4⟩
      have HB4 := hide (HBL.out.trans (hB4.mono HBL.out.size))
      clear hB4
      go_wp2_with fail
      go_ret
      exact ⟨ret_str HZ.out.symm, HB4.out⟩
    by_cases k123 : kD d = 1 ∨ kD d = 2 ∨ kD d = 3
    · have HZ := hide (show res = textD (m + 1) d by rw [hres, jt_leaf k123])
      have hi0 : iD d = [] := by rcases hiN with h | h; omega; exact h
      have hm0 : mD d = [] := by rcases hmN with h | h; omega; exact h
      have htb2 : tbF (m + 1) d ≤ 1000000000 := by omega
      have HQ := hide fun W (hB : Below w.heap.size w W) => Text_run (m + 1) d A c A' c' W (hpt.turn (Same.of_below hB) hB.size) (leaf_fit hi0 hm0) htb2 (tab_below ht hB)
      unfold datV datCs at HQ
      unfold datV datCs
      obtain ⟨k, hk⟩ : ∃ k, k = kD d := ⟨_, rfl⟩
      obtain ⟨n, hn'⟩ : ∃ k, k = nD d := ⟨_, rfl⟩
      obtain ⟨s, hs⟩ : ∃ k, k = sD d := ⟨_, rfl⟩
      obtain ⟨x, hx⟩ : ∃ k, k = (iD d).length := ⟨_, rfl⟩
      obtain ⟨y, hy⟩ : ∃ k, k = (mD d).length := ⟨_, rfl⟩
      rw [← hk, ← hn', ← hs, ← hx, ← hy] at HQ
      rw [← hk, ← hn', ← hs, ← hx, ← hy]
      obtain ⟨T, hT⟩ : ∃ T, T = textD (m + 1) d := ⟨_, rfl⟩
      obtain ⟨z, hz⟩ : ∃ T, T = checkD d := ⟨_, rfl⟩
      rw [← hT, ← hz] at HQ
      rw [← hT] at HZ
      rw [← hk] at k123
      have HRL := hide hRL; have HB0 := hide hBL0
      clear hk hn' hs hx hy hT hz hI hM hb1 hb2 htb htb2 hbd ht hpt hiN hmN hi0 hm0 hkz hown hcz hres h1 h2 h3 h4 hRL hBL0 k4 hk1 hk6 ih HLN HLN0 HTAB hz0 hz1 hz2 hsz hm hm'
      rcases k123 with rfl | rfl | rfl
      all_goals
        go_enter Tryd.func31, Tryd.ntmps31
        go_upto_region 1 with fail
        rw [← hwL]
        obtain ⟨w1, g, e1, e2, hBL, c0, c1, c2, c3, c4, hROW⟩ := boxD wL _ n s (.slice A x c) (.slice A' y c')
        rw [e1, show w.heap.size + 1 = g by rw [← e2, hwL]; simp, ← hgl]
        have q0 : w1.cell? ⟨gl, 0, none⟩ = some (.bool true) := (HRL.out.below hBL).cell 0
        have HBL := hide (HB0.out.trans (hBL.mono HB0.out.size))
        clear e1 e2 hwL hgl hBL hROW HRL HB0
        go_wp2_with fail
        refine (HQ.out _ HBL.out).mono ?_; rintro e w4 ⟨rfl, hB4⟩
        have HB4 := hide (HBL.out.trans (hB4.mono HBL.out.size))
        clear hB4
        go_wp2_with fail
        go_ret
        exact ⟨ret_str HZ.out.symm, HB4.out⟩
    have HRL := hide hRL; have HB0 := hide hBL0
    have HWR := hide (hres.trans (jt_wrap (by omega)))
    by_cases k5 : kD d = 5
    · have hm0 : mD d = [] := by rcases hmN with h | h; omega; exact h
      have hi2 : (iD d).length ≤ 1000000000 := by
        have := sumN_len (fun x => 100 + jbF m x) (fun x => by omega) (iD d)
        rw [jbF] at hbd; omega
      have HI := hide fun i x (h : (iD d)[i]? = some x) => And.intro (hI i x h) (And.intro (show jbF m x ≤ 1000000000 by have := hb1 x (List.mem_of_getElem? h); omega) (And.intro (hkz x (is_kid (List.mem_of_getElem? h))) (jtF_le true m r' (lv + 1) x (by omega) (hkz x (is_kid (List.mem_of_getElem? h))))))
      obtain ⟨L, hL⟩ : ∃ L, L = jparts true lv (jtF true m (lv + 1)) d := ⟨_, rfl⟩
      rw [← hL] at HWR htb
      rw [list_one hm0] at hL
      have HSUM := hide (show sumN (fun x : ByteArray => x.size + 1) L ≤ 1000000000 by have := sum_one (l := L); omega)
      rw [k5] at HWR
      obtain ⟨xs, hxs⟩ : ∃ k, k = iD d := ⟨_, rfl⟩
      unfold datV datCs
      rw [k5, hm0]
      rw [← hxs] at HI h1 hi2 hL
      obtain ⟨n, hn'⟩ : ∃ k, k = nD d := ⟨_, rfl⟩
      obtain ⟨s, hs⟩ : ∃ k, k = sD d := ⟨_, rfl⟩
      obtain ⟨x, hx⟩ : ∃ k, k = xs.length := ⟨_, rfl⟩
      rw [← hn', ← hs, ← hxs, ← hx]
      rw [← hx] at h1 hi2
      rw [show ((([] : List (ByteArray × Dt)).length : Nat)) = 0 from rfl]
      have HLL := hide (show L.length = x by rw [hL, List.length_map, hx])
      have HLA := hide (show ∀ i X, xs[i]? = some X → L[i]? = some (jpartI true lv (jtF true m (lv + 1)) X) from fun i X h => by rw [hL, List.getElem?_map, h]; rfl)
      have HX := Lib.hid hx
      clear hn' hs hx hxs hL hI hM hb1 hb2 htb hbd ht hpt hiN hmN hm0 hkz hown hcz hres h2 h3 h4 hRL hBL0 k4 k123 k5 hk1 hk6 hsz hm'
      go_enter Tryd.func31, Tryd.ntmps31
      go_upto_region 1 with fail
      rw [← hwL]
      obtain ⟨w1, g, e1, e2, hBL, c0, c1, c2, c3, c4, hROW⟩ := boxD wL 5 n s (.slice A x c) (.slice A' 0 c')
      rw [e1, show w.heap.size + 1 = g by rw [← e2, hwL]; simp, ← hgl]
      have HC := hide fun W (h : Below w1.heap.size w1 W) => (And.intro ((HRL.out.below (hBL.trans (h.mono hBL.size))).cell 0) (row5 (hROW.below h)) : W.cell? ⟨gl, 0, none⟩ = some (.bool true) ∧ _)
      have q0 : w1.cell? ⟨gl, 0, none⟩ = some (.bool true) := (HRL.out.below hBL).cell 0
      have HBL := hide (HB0.out.trans (hBL.mono HB0.out.size))
      have hgl1 : gl < w1.heap.size := (HRL.out.below hBL).lt
      have hg1 : g < w1.heap.size := hROW.lt
      clear e1 e2 hwL hgl hBL hROW HRL HB0
      go_wp2_with fail
      go_loopw [9, 14, 41] (fun ov _ iv wr => ∃ i : Nat, iv = .int .i64 i ∧ i ≤ x ∧ Hid (Below w1.heap.size w1 wr) ∧ Hid (wr.ownsRow w1.heap.size 9 1 ov i (strsV (L.take i)))) (fun _ _ iv _ => x - (intOf iv).toNat)
      case atStart => exact ⟨0, rfl, Nat.zero_le _, hide (Below.refl _ _), hide (World.ownsRow_nil _ _ _ _)⟩
      case round =>
        obtain ⟨i, rfl, hi, hB, hO⟩ := hrel
        have hwB := HBL.out.trans (hB.out.mono HBL.out.size)
        by_cases hlt : i < x
        · have hlt' : i < xs.length := by rw [← HX.out]; exact hlt
          obtain ⟨⟨ad, rfl, hb, a, q, a', q', hfive, hpts⟩, htx, hcx, htl⟩ := HI.out i _ (List.getElem?_eq_getElem hlt')
          obtain ⟨X, hX⟩ : ∃ X, X = xs[i] := ⟨_, rfl⟩
          rw [← hX] at hfive hpts htx hcx htl
          have hbb : (ad.add (i * 5)).block < w.heap.size := by rw [block_of_add]; exact hb
          obtain ⟨s0, s1, s2, s3, s4⟩ := hfive.same hbb (Same.of_below hwB)
          have HCK := hide fun w' (hB' : Below w.heap.size w w') => ih r' (lv + 1) X a q a' q' w' (by omega) hcx (hpts.turn (Same.of_below hB') hB'.size) htx (HTAB.out _ hB')
          have HXX := hide (show strsV (L.take (i + 1)) = strsV (L.take i) ++ [.string (jpartI true lv (jtF true m (lv + 1)) X)] by
            rw [List.take_add_one, HLA.out i _ (List.getElem?_eq_getElem hlt'), strsV_append, hX]; rfl)
          unfold jpartI at HXX
          unfold datV datCs at HCK
          obtain ⟨T, hT⟩ : ∃ T, T = jtF true m (lv + 1) X := ⟨_, rfl⟩
          obtain ⟨LB, hLB⟩ : ∃ T, T = lineB true (lv + 1) := ⟨_, rfl⟩
          have hls : LB.size ≤ 100 := by rw [hLB]; have := lineB_size true (lv + 1); omega
          rw [← hT] at HCK HXX htl
          rw [← hLB] at HXX
          have HLN1 := hide fun W => (HLN.out W)
          rw [← hLB] at HLN1
          rw [hcast] at HCK
          have hov : ¬ 9223372036854775807 < LB.size + T.size := by omega
          obtain ⟨c0, c1, c2, c3, c4, c5⟩ := HC.out _ hB.out
          clear hfive hpts hX hlt' hb hbb hT hLB htx hcx htl
          go_upto_region 19 with fail
          obtain ⟨wa, hwa⟩ : ∃ wa, wa = wr.alloc (Obj.cells #[Value.int IntKind.i64 (kD X), Value.int IntKind.i64 (nD X), Value.string (sD X), Value.slice a (iD X).length q, Value.slice a' (mD X).length q'] 27) := ⟨_, rfl⟩
          obtain ⟨b, hbb⟩ : ∃ b, b = wr.heap.size := ⟨_, rfl⟩
          have hR : Row wa b 27 [Value.int IntKind.i64 (kD X), Value.int IntKind.i64 (nD X), Value.string (sD X), Value.slice a (iD X).length q, Value.slice a' (mD X).length q'] := by rw [hwa, hbb]; exact Row.new wr _ _
          have HBA := hide (show Below w1.heap.size w1 wa by rw [hwa]; exact below_al hB.out _)
          have HOA := hide (show wa.ownsRow w1.heap.size 9 1 u9 i (strsV (L.take i)) by rw [hwa]; exact hO.out.alloc _)
          have hS0 : w1.heap.size ≤ wa.heap.size := HBA.out.size
          rw [← hwa, ← hbb]
          clear hwa hbb
          obtain ⟨wd, hwd⟩ : ∃ W, W = wa.drew := ⟨_, rfl⟩
          have hBD : Below wa.heap.size wa wd := by rw [hwd]; exact (Below.refl _ _).drew
          have hsd : wd.heap.size = wa.heap.size := by rw [hwd]; rfl
          have hRD := hR.below hBD
          have HBD := hide (HBA.out.trans (hBD.mono hS0))
          have HOD := hide (own_below HOA.out hBD)
          have hbsd := HBD.out.size
          have HS := hide fun W (h : Below wd.heap.size wd W) => (And.intro (HC.out W (HBD.out.trans (h.mono hbsd))).1 (row5 (hRD.below h)) : W.cell? ⟨gl, 0, none⟩ = some (.bool true) ∧ _)
          have HWB := hide fun W (h : Below wd.heap.size wd W) => HBL.out.trans ((HBD.out.trans (h.mono hbsd)).mono HBL.out.size)
          clear hR hRD hBD HBA HOA hS0 hsd s0 s1 s2 s3 s4 hB hO hwB c0 c1 c2 c3 c4 c5
          refine region_two 12 (fun W => W.cell? ⟨gl, 0, none⟩ = some (.bool true) ∧ W.cell? ⟨b, 0, none⟩ = some (.int .i64 (kD X)) ∧ W.cell? ⟨b, 1, none⟩ = some (.int .i64 (nD X)) ∧ W.cell? ⟨b, 2, none⟩ = some (.string (sD X)) ∧
              W.cell? ⟨b, 3, none⟩ = some (.slice a (iD X).length q) ∧ W.cell? ⟨b, 4, none⟩ = some (.slice a' (mD X).length q')) (by kernel_rfl) (by kernel_rfl) (by rw [← hwd]; exact HS.out _ (Below.refl _ _)) (fun hH => ?_)
          rw [← hwd] at hH ⊢
          clear hwd
          simp only [List.take_succ_cons, List.take_zero]
          refine takeH (i := 0) (v := ?_) rfl (by kernel_rfl) (by kernel_rfl) (by kernel_rfl) (fun _ _ _ h => h) (Or.inl ⟨by rfl, ?_⟩) hH ?_
          rotate_left
          · (intro w hSw; (try dsimp only at hSw); go_simp; try with_reducible rfl)
          simp only [Act.put, List.setIfInBounds_toArray, List.set_cons_zero, List.set_cons_succ]
          refine takeH (i := 1) (v := ?_) rfl (by kernel_rfl) (by kernel_rfl) (by kernel_rfl) (fun _ _ _ h => h) (Or.inl ⟨by rfl, ?_⟩) hH ?_
          rotate_left
          · (intro w hSw; (try dsimp only at hSw); go_simp; try with_reducible rfl)
          simp only [Act.put, List.setIfInBounds_toArray, List.set_cons_zero, List.set_cons_succ]
          refine takeH (i := 2) (v := ?_) rfl (by kernel_rfl) (by kernel_rfl) (by kernel_rfl) (fun _ _ _ h => h) (Or.inl ⟨by rfl, ?_⟩) hH ?_
          rotate_left
          · (intro w hSw; (try dsimp only at hSw); go_simp; try with_reducible rfl)
          simp only [Act.put, List.setIfInBounds_toArray, List.set_cons_zero, List.set_cons_succ]
          refine takeH (i := 3) (v := ?_) rfl (by kernel_rfl) (by kernel_rfl) (by kernel_rfl) (fun _ _ _ h => h) (Or.inl ⟨by rfl, ?_⟩) hH ?_
          rotate_left
          · (intro w hSw; (try dsimp only at hSw); go_simp; try with_reducible rfl)
          simp only [Act.put, List.setIfInBounds_toArray, List.set_cons_zero, List.set_cons_succ]
          refine takeH (i := 5) (v := ?_) rfl (by kernel_rfl) (by kernel_rfl) (by kernel_rfl) (fun _ _ _ h => h) (Or.inl ⟨by rfl, ?_⟩) hH ?_
          rotate_left
          · (intro w hSw; (try dsimp only at hSw); go_simp; try with_reducible rfl)
          simp only [Act.put, List.setIfInBounds_toArray, List.set_cons_zero, List.set_cons_succ]
          refine takeH (i := 6) (v := ?_) rfl (by kernel_rfl) (by kernel_rfl) (by kernel_rfl) (fun _ _ _ h => h) (Or.inl ⟨by rfl, ?_⟩) hH ?_
          rotate_left
          · (intro w hSw; (try dsimp only at hSw); go_simp; try with_reducible rfl)
          simp only [Act.put, List.setIfInBounds_toArray, List.set_cons_zero, List.set_cons_succ]
          refine takeH (i := 7) (v := ?_) rfl (by kernel_rfl) (by kernel_rfl) (by kernel_rfl) (fun _ _ _ h => h) (Or.inl ⟨by rfl, ?_⟩) hH ?_
          rotate_left
          · (intro w hSw; (try dsimp only at hSw); go_simp; try with_reducible rfl)
          simp only [Act.put, List.setIfInBounds_toArray, List.set_cons_zero, List.set_cons_succ]
          refine takeH (i := 8) (v := ?_) rfl (by kernel_rfl) (by kernel_rfl) (by kernel_rfl) (fun _ _ _ h => h) (Or.inl ⟨by rfl, ?_⟩) hH ?_
          rotate_left
          · (intro w hSw; (try dsimp only at hSw); go_simp; try with_reducible rfl)
          simp only [Act.put, List.setIfInBounds_toArray, List.set_cons_zero, List.set_cons_succ]
          refine oneH (i := 4) rfl (by kernel_rfl) (fun K hK => ?_)
          go_simp
          go_at_call 43
          refine (HLN1.out _).mono ?_; rintro e w3 ⟨rfl, hB3⟩
          refine hK.out _ _ (HS.out _ hB3) (fun hH => ?_)
          clear hK K
          refine oneH (i := 9) rfl (by kernel_rfl) (fun K hK => ?_)
          go_simp
          go_at_call 31
          refine (HCK.out _ (HWB.out _ hB3)).mono ?_; rintro e w4 ⟨rfl, hB4⟩
          have hB5 := hB3.trans (hB4.mono hB3.size)
          refine hK.out _ _ (HS.out _ hB5) (fun hH => ?_)
          clear hK K
          refine takeH (i := 10) (v := ?_) rfl (by kernel_rfl) (by kernel_rfl) (by kernel_rfl) (fun _ _ _ h => h) (Or.inl ⟨by rfl, ?_⟩) hH ?_
          rotate_left
          · (intro w hSw; (try dsimp only at hSw); go_simp; try with_reducible rfl)
          simp only [Act.put, List.setIfInBounds_toArray, List.set_cons_zero, List.set_cons_succ]
          refine oneH (i := 11) rfl (by kernel_rfl) (fun K hK => ?_)
          go_simp
          refine hK.out _ _ (HS.out _ (below_al hB5 _)) (fun hH => ?_)
          clear hK K
          refine wpAnyH_done (by kernel_rfl) ?_ _
          unfold TailPost
          simp only [List.drop_succ_cons, List.drop_zero]
          have HB4 := hide hB5
          have hs4 := hB5.size
          have HO4 := hide (own_below HOD.out hB5)
          clear hH hB3 hB4 hB5 HCK HLN1 HS HWB
          go_wp2_with (at_builtin; refine wpList_append_all _ rfl (.tmp 45) (.tmp 56) _ rfl w1.heap.size 9 i0 _ 1 16 Tryd.underlying70 hi0 hz0 hz1 hz2 rfl (by omega) u9 i (strsV (L.take i)) rfl (HO4.out.alloc _) (some ⟨w4.heap.size, 0, none⟩) 1 1 [.string (LB ++ T)] rfl (by intro h; cases h) rfl (by intro ad' h; injection h with h; subst h; exact World.news_of_block (heap_alloc_new _ _)) one_str (by unfold maxLen; omega) (by omega) (by simp; omega) ?_)
          intro v' w' o1 o2
          have HB5 := hide (Below.grown (below_al (HBD.out.trans (HB4.out.mono hbsd)) (.cells #[.string (LB ++ T)] 9)) o2.out (by simp; omega) (fun k e => (HO4.out.lt k e).1))
          have HO5 := hide (show w'.ownsRow w1.heap.size 9 1 v' (i + 1) (strsV (L.take (i + 1))) by rw [HXX.out]; exact o1.out)
          clear o1 o2 HO4 HOD HB4 HBD HXX
          go_wp2_with fail
          go_roundw
          case rel => exact ⟨i + 1, by go_num, by omega, HB5, HO5⟩
          case measure => simp [intOf]; omega
        · obtain rfl : x = i := by omega
          obtain ⟨c0, c1, c2, c3, c4, c5⟩ := HC.out _ hB.out
          have HO1 := hide (show wr.ownsRow w1.heap.size 9 1 u9 x (strsV L) by
            have e : L.take x = L := by rw [← HLL.out, List.take_length]
            have := hO.out
            rw [e] at this; exact this)
          have HJ := hide fun W (h : Below wr.heap.size wr W) => joinC_run u9 L w1.heap.size W (by rw [HLL.out]; exact own_below HO1.out h) HSUM.out
          have HB1 := hide hB.out
          obtain ⟨A9, c9, rfl⟩ := own_form HO1.out
          clear hO hB hlt hi HI HX HLA HO1 ih
          go_wp2_with fail
          go_loopw [9, 16, 62] (fun ov _ iv W => ov = .slice A9 x c9 ∧ iv = .int .i64 0 ∧ W = wr) (fun _ _ _ _ => 0)
          case atStart => exact ⟨rfl, rfl, rfl⟩
          case round =>
            obtain ⟨rfl, rfl, e3⟩ := hrel
            subst e3
            by_cases hx0 : x = 0
            · subst hx0
              have HZ := hide (show res = ⟨#[91]⟩ ++ ⟨#[93]⟩ from HWR.out.trans (wrap_nil HLL.out))
              go_wp2_with fail
              go_ret
              exact ⟨ret_str HZ.out.symm, hwB⟩
            · have HZ := hide (show res = ⟨#[91]⟩ ++ joinC L ++ lineB true lv ++ ⟨#[93]⟩ from HWR.out.trans (wrap_cons (by rw [HLL.out]; exact hx0)))
              have hJs := Nat.le_trans (joinC_size L) HSUM.out
              have hLs := lineB_size true lv
              have hg1 : ((x : Int) == 0) = false := by simp; omega
              have HLM := hide fun W => HLN0.out W
              obtain ⟨J, hJ⟩ : ∃ J, J = joinC L := ⟨_, rfl⟩
              obtain ⟨LB, hLB⟩ : ∃ J, J = lineB true lv := ⟨_, rfl⟩
              rw [← hJ] at HJ HZ hJs
              rw [← hLB] at HLM HZ hLs
              have HCW := hide fun W (h : Below wr.heap.size wr W) => (HC.out W (HB1.out.trans (h.mono HB1.out.size))).1
              have ho1 : ¬ 9223372036854775807 < 1 + J.size := by omega
              have ho2 : ¬ 9223372036854775807 < 1 + J.size + LB.size := by omega
              have ho3 : ¬ 9223372036854775807 < 1 + J.size + LB.size + 1 := by omega
              clear hJ hLB HSUM HWR hx0
              go_upto_region 28 with fail
              obtain ⟨wd, hwd⟩ : ∃ W, W = wr.drew := ⟨_, rfl⟩
              have hBD : Below wr.heap.size wr wd := by rw [hwd]; exact (Below.refl _ _).drew
              have HJD := hide fun W (h : Below wd.heap.size wd W) => HJ.out W (hBD.trans (h.mono hBD.size))
              have HCD := hide fun W (h : Below wd.heap.size wd W) => HCW.out W (hBD.trans (h.mono hBD.size))
              have HBD := hide (hwB.trans (hBD.mono hwB.size))
              clear hBD HJ HCW hwB HB1 c0 c1 c2 c3 c4 c5
              refine region_two 9 (fun W => W.cell? ⟨gl, 0, none⟩ = some (.bool true)) (by kernel_rfl) (by kernel_rfl) (by rw [← hwd]; exact HCD.out _ (Below.refl _ _)) (fun hH => ?_)
              rw [← hwd] at hH ⊢
              clear hwd
              simp only [List.take_succ_cons, List.take_zero]
              refine takeH (i := 0) (v := ?_) rfl (by kernel_rfl) (by kernel_rfl) (by kernel_rfl) (fun _ _ _ h => h) (Or.inl ⟨by rfl, ?_⟩) hH ?_
              rotate_left
              · (intro w hSw; (try dsimp only at hSw); go_simp; try with_reducible rfl)
              simp only [Act.put, List.setIfInBounds_toArray, List.set_cons_zero, List.set_cons_succ]
              refine takeH (i := 1) (v := ?_) rfl (by kernel_rfl) (by kernel_rfl) (by kernel_rfl) (fun _ _ _ h => h) (Or.inl ⟨by rfl, ?_⟩) hH ?_
              rotate_left
              · (intro w hSw; (try dsimp only at hSw); go_simp; try with_reducible rfl)
              simp only [Act.put, List.setIfInBounds_toArray, List.set_cons_zero, List.set_cons_succ]
              refine takeH (i := 4) (v := ?_) rfl (by kernel_rfl) (by kernel_rfl) (by kernel_rfl) (fun _ _ _ h => h) (Or.inl ⟨by rfl, ?_⟩) hH ?_
              rotate_left
              · (intro w hSw; (try dsimp only at hSw); go_simp; try with_reducible rfl)
              simp only [Act.put, List.setIfInBounds_toArray, List.set_cons_zero, List.set_cons_succ]
              refine takeH (i := 5) (v := ?_) rfl (by kernel_rfl) (by kernel_rfl) (by kernel_rfl) (fun _ _ _ h => h) (Or.inl ⟨by rfl, ?_⟩) hH ?_
              rotate_left
              · (intro w hSw; (try dsimp only at hSw); go_simp; try with_reducible rfl)
              simp only [Act.put, List.setIfInBounds_toArray, List.set_cons_zero, List.set_cons_succ]
              refine takeH (i := 8) (v := ?_) rfl (by kernel_rfl) (by kernel_rfl) (by kernel_rfl) (fun _ _ _ h => h) (Or.inl ⟨by rfl, ?_⟩) hH ?_
              rotate_left
              · (intro w hSw; (try dsimp only at hSw); go_simp; try with_reducible rfl)
              simp only [Act.put, List.setIfInBounds_toArray, List.set_cons_zero, List.set_cons_succ]
              refine oneH (i := 2) rfl (by kernel_rfl) (fun K hK => ?_)
              go_simp
              go_at_call 44
              refine (HJD.out _ (Below.refl _ _)).mono ?_; rintro e w3 ⟨rfl, hB3⟩
              refine hK.out _ _ (HCD.out _ hB3) (fun hH => ?_)
              clear hK K
              refine takeH (i := 3) (v := ?_) rfl (by kernel_rfl) (by kernel_rfl) (by kernel_rfl) (fun _ _ _ h => h) (Or.inl ⟨by rfl, ?_⟩) hH ?_
              rotate_left
              · (intro w hSw; (try dsimp only at hSw); go_simp; try with_reducible rfl)
              simp only [Act.put, List.setIfInBounds_toArray, List.set_cons_zero, List.set_cons_succ]
              refine oneH (i := 6) rfl (by kernel_rfl) (fun K hK => ?_)
              go_simp
              go_at_call 43
              refine (HLM.out _).mono ?_; rintro e w4 ⟨rfl, hB4⟩
              have hB5 := hB3.trans (hB4.mono hB3.size)
              refine hK.out _ _ (HCD.out _ hB5) (fun hH => ?_)
              clear hK K
              refine takeH (i := 7) (v := ?_) rfl (by kernel_rfl) (by kernel_rfl) (by kernel_rfl) (fun _ _ _ h => h) (Or.inl ⟨by rfl, ?_⟩) hH ?_
              rotate_left
              · (intro w hSw; (try dsimp only at hSw); go_simp; try with_reducible rfl)
              simp only [Act.put, List.setIfInBounds_toArray, List.set_cons_zero, List.set_cons_succ]
              refine wpAnyH_done (by kernel_rfl) ?_ _
              unfold TailPost
              simp only [List.drop_succ_cons, List.drop_zero]
              have HB6 := hide (HBD.out.trans (hB5.mono HBD.out.size))
              clear hH hB3 hB4 hB5 HJD HLM HCD HBD
              go_wp2_with fail
              go_ret
              exact ⟨ret_str HZ.out.symm, HB6.out⟩
    · have k6 : kD d = 6 := by omega
      have hm0 : iD d = [] := by rcases hiN with h | h; omega; exact h
      have hi2 : (mD d).length ≤ 1000000000 := by
        have := sumN_len (fun x : ByteArray × Dt => 100 + 6 * x.1.size + jbF m x.2) (fun x => by omega) (mD d)
        rw [jbF] at hbd; omega
      have HI := hide fun i x (h : (mD d)[i]? = some x) => And.intro (hM i x h) (And.intro (show x.1.size + jbF m x.2 ≤ 1000000000 by have := hb2 x (List.mem_of_getElem? h); omega) (And.intro (show 6 * x.1.size ≤ 1000000000 by have := sumN_le (fun x : ByteArray × Dt => 100 + 6 * x.1.size + jbF m x.2) (List.mem_of_getElem? h); rw [jbF] at hbd; omega) (And.intro (hkz x.2 (ms_kid (List.mem_of_getElem? h))) (jtF_le true m r' (lv + 1) x.2 (by omega) (hkz x.2 (ms_kid (List.mem_of_getElem? h)))))))
      obtain ⟨L, hL⟩ : ∃ L, L = jparts true lv (jtF true m (lv + 1)) d := ⟨_, rfl⟩
      rw [← hL] at HWR htb
      rw [mems_one hm0] at hL
      have HSUM := hide (show sumN (fun x : ByteArray => x.size + 1) L ≤ 1000000000 by have := sum_one (l := L); omega)
      rw [k6] at HWR
      obtain ⟨xs, hxs⟩ : ∃ k, k = mD d := ⟨_, rfl⟩
      unfold datV datCs
      rw [k6, hm0]
      rw [← hxs] at HI h3 hi2 hL
      obtain ⟨n, hn'⟩ : ∃ k, k = nD d := ⟨_, rfl⟩
      obtain ⟨s, hs⟩ : ∃ k, k = sD d := ⟨_, rfl⟩
      obtain ⟨x, hx⟩ : ∃ k, k = xs.length := ⟨_, rfl⟩
      rw [← hn', ← hs, ← hxs, ← hx]
      rw [← hx] at h3 hi2
      rw [show ((([] : List Dt).length : Nat)) = 0 from rfl]
      have HLL := hide (show L.length = x by rw [hL, List.length_map, hx])
      have HLA := hide (show ∀ i X, xs[i]? = some X → L[i]? = some (jpartM true lv (jtF true m (lv + 1)) X) from fun i X h => by rw [hL, List.getElem?_map, h]; rfl)
      have HX := Lib.hid hx
      clear hn' hs hx hxs hL hI hM hb1 hb2 htb hbd ht hpt hiN hmN hm0 hkz hown hcz hres h1 h2 h4 hRL hBL0 k4 k123 k5 k6 hk1 hk6 hsz hm
      go_enter Tryd.func31, Tryd.ntmps31
      go_upto_region 1 with fail
      rw [← hwL]
      obtain ⟨w1, g, e1, e2, hBL, c0, c1, c2, c3, c4, hROW⟩ := boxD wL 6 n s (.slice A 0 c) (.slice A' x c')
      rw [e1, show w.heap.size + 1 = g by rw [← e2, hwL]; simp, ← hgl]
      have HC := hide fun W (h : Below w1.heap.size w1 W) => (And.intro ((HRL.out.below (hBL.trans (h.mono hBL.size))).cell 0) (row5 (hROW.below h)) : W.cell? ⟨gl, 0, none⟩ = some (.bool true) ∧ _)
      have q0 : w1.cell? ⟨gl, 0, none⟩ = some (.bool true) := (HRL.out.below hBL).cell 0
      have HBL := hide (HB0.out.trans (hBL.mono HB0.out.size))
      have hgl1 : gl < w1.heap.size := (HRL.out.below hBL).lt
      have hg1 : g < w1.heap.size := hROW.lt
      clear e1 e2 hwL hgl hBL hROW HRL HB0
      go_wp2_with fail
      go_loopw [9, 14, 41] (fun ov _ iv W => ov = .slice none 0 0 ∧ iv = .int .i64 0 ∧ W = w1) (fun _ _ _ _ => 0)
      case atStart => exact ⟨rfl, rfl, rfl⟩
      case round =>
        obtain ⟨rfl, rfl, e3⟩ := hrel
        have e3 := e3.symm
        subst e3
        go_wp2_with fail
        go_loopw [9, 16, 62] (fun ov _ iv W => ∃ i : Nat, iv = .int .i64 i ∧ i ≤ x ∧ Hid (Below w1.heap.size w1 W) ∧ Hid (W.ownsRow w1.heap.size 9 1 ov i (strsV (L.take i)))) (fun _ _ iv _ => x - (intOf iv).toNat)
        case atStart => exact ⟨0, rfl, Nat.zero_le _, hide (Below.refl _ _), hide (World.ownsRow_nil _ _ _ _)⟩
        case round =>
          obtain ⟨i, rfl, hi, hB, hO⟩ := hrel
          have hwB := HBL.out.trans (hB.out.mono HBL.out.size)
          by_cases hlt : i < x
          · have hlt' : i < xs.length := by rw [← HX.out]; exact hlt
            obtain ⟨⟨ad, rfl, hb, hlab, a, q, a', q', hfive, hpts⟩, htx, hls, hcx, htl⟩ := HI.out i _ (List.getElem?_eq_getElem hlt')
            obtain ⟨X, hX⟩ : ∃ X, X = xs[i] := ⟨_, rfl⟩
            rw [← hX] at hlab hfive hpts htx hls hcx htl
            have hbb : (ad.add (i * 6)).block < w.heap.size := by rw [block_of_add]; exact hb
            obtain ⟨s0, s1, s2, s3, s4, s5⟩ := six_of ((hwB.cell (p := ad.add (i * 6)) hbb).trans hlab) (hfive.same (p := ⟨_, _, none⟩) hbb (Same.of_below hwB))
            have HCK := hide fun w' (hB' : Below w.heap.size w w') => ih r' (lv + 1) X.2 a q a' q' w' (by omega) hcx (hpts.turn (Same.of_below hB') hB'.size) (by omega) (HTAB.out _ hB')
            have HXX := hide (show strsV (L.take (i + 1)) = strsV (L.take i) ++ [.string (jpartM true lv (jtF true m (lv + 1)) X)] by
              rw [List.take_add_one, HLA.out i _ (List.getElem?_eq_getElem hlt'), strsV_append, hX]; rfl)
            unfold jpartM at HXX
            unfold datV datCs at HCK
            obtain ⟨T, hT⟩ : ∃ T, T = jtF true m (lv + 1) X.2 := ⟨_, rfl⟩
            obtain ⟨LB, hLB⟩ : ∃ T, T = lineB true (lv + 1) := ⟨_, rfl⟩
            have hls : LB.size ≤ 100 := by rw [hLB]; have := lineB_size true (lv + 1); omega
            rw [← hT] at HCK HXX htl
            rw [← hLB] at HXX
            have HQT := hide fun W => quoted_run X.1 (by omega) W
            have hqs := jqB_size X.1
            obtain ⟨QT, hQT⟩ : ∃ T, T = jqB X.1 := ⟨_, rfl⟩
            rw [← hQT] at HQT HXX hqs
            have hcol : colB true = ⟨#[58, 32]⟩ := rfl
            rw [hcol] at HXX
            have HLN1 := hide fun W => (HLN.out W)
            rw [← hLB] at HLN1
            rw [hcast] at HCK
            have hq1 : QT.size ≤ 1100000000 := by omega
            have hov1 : ¬ 9223372036854775807 < LB.size + QT.size := by omega
            have hov2 : ¬ 9223372036854775807 < LB.size + QT.size + 2 := by omega
            have hov3 : ¬ 9223372036854775807 < LB.size + QT.size + 2 + T.size := by omega
            obtain ⟨c0, c1, c2, c3, c4, c5⟩ := HC.out _ hB.out
            clear hlab hfive hpts hX hlt' hb hbb hT hLB hQT hcol htx hcx htl hls hqs
            go_upto_region 24 with fail
            obtain ⟨wa, hwa⟩ : ∃ wa, wa = wr.alloc (Obj.cells #[Value.string X.1, Value.int IntKind.i64 (kD X.2), Value.int IntKind.i64 (nD X.2), Value.string (sD X.2), Value.slice a (iD X.2).length q, Value.slice a' (mD X.2).length q'] 50) := ⟨_, rfl⟩
            obtain ⟨b, hbb⟩ : ∃ b, b = wr.heap.size := ⟨_, rfl⟩
            have hR : Row wa b 50 [Value.string X.1, Value.int IntKind.i64 (kD X.2), Value.int IntKind.i64 (nD X.2), Value.string (sD X.2), Value.slice a (iD X.2).length q, Value.slice a' (mD X.2).length q'] := by rw [hwa, hbb]; exact Row.new wr _ _
            have HBA := hide (show Below w1.heap.size w1 wa by rw [hwa]; exact below_al hB.out _)
            have HOA := hide (show wa.ownsRow w1.heap.size 9 1 u9 i (strsV (L.take i)) by rw [hwa]; exact hO.out.alloc _)
            have hS0 : w1.heap.size ≤ wa.heap.size := HBA.out.size
            rw [← hwa, ← hbb]
            clear hwa hbb
            obtain ⟨wd, hwd⟩ : ∃ W, W = wa.drew := ⟨_, rfl⟩
            have hBD : Below wa.heap.size wa wd := by rw [hwd]; exact (Below.refl _ _).drew
            have hsd : wd.heap.size = wa.heap.size := by rw [hwd]; rfl
            have hRD := hR.below hBD
            have HBD := hide (HBA.out.trans (hBD.mono hS0))
            have HOD := hide (own_below HOA.out hBD)
            have hbsd := HBD.out.size
            have HS := hide fun W (h : Below wd.heap.size wd W) => (And.intro (HC.out W (HBD.out.trans (h.mono hbsd))).1 (row6 (hRD.below h)) : W.cell? ⟨gl, 0, none⟩ = some (.bool true) ∧ _)
            have HWB := hide fun W (h : Below wd.heap.size wd W) => HBL.out.trans ((HBD.out.trans (h.mono hbsd)).mono HBL.out.size)
            clear hR hRD hBD HBA HOA hS0 hsd s0 s1 s2 s3 s4 hB hO hwB c0 c1 c2 c3 c4 c5
            refine region_two 19 (fun W => W.cell? ⟨gl, 0, none⟩ = some (.bool true) ∧ W.cell? ⟨b, 0, none⟩ = some (.string X.1) ∧ W.cell? ⟨b, 1, none⟩ = some (.int .i64 (kD X.2)) ∧ W.cell? ⟨b, 2, none⟩ = some (.int .i64 (nD X.2)) ∧ W.cell? ⟨b, 3, none⟩ = some (.string (sD X.2)) ∧
                W.cell? ⟨b, 4, none⟩ = some (.slice a (iD X.2).length q) ∧ W.cell? ⟨b, 5, none⟩ = some (.slice a' (mD X.2).length q')) (by kernel_rfl) (by kernel_rfl) (by rw [← hwd]; exact HS.out _ (Below.refl _ _)) (fun hH => ?_)
            rw [← hwd] at hH ⊢
            clear hwd
            simp only [List.take_succ_cons, List.take_zero]
            refine takeH (i := 0) (v := ?_) rfl (by kernel_rfl) (by kernel_rfl) (by kernel_rfl) (fun _ _ _ h => h) (Or.inl ⟨by rfl, ?_⟩) hH ?_
            rotate_left
            · (intro w hSw; (try dsimp only at hSw); go_simp; try with_reducible rfl)
            simp only [Act.put, List.setIfInBounds_toArray, List.set_cons_zero, List.set_cons_succ]
            refine takeH (i := 1) (v := ?_) rfl (by kernel_rfl) (by kernel_rfl) (by kernel_rfl) (fun _ _ _ h => h) (Or.inl ⟨by rfl, ?_⟩) hH ?_
            rotate_left
            · (intro w hSw; (try dsimp only at hSw); go_simp; try with_reducible rfl)
            simp only [Act.put, List.setIfInBounds_toArray, List.set_cons_zero, List.set_cons_succ]
            refine takeH (i := 2) (v := ?_) rfl (by kernel_rfl) (by kernel_rfl) (by kernel_rfl) (fun _ _ _ h => h) (Or.inl ⟨by rfl, ?_⟩) hH ?_
            rotate_left
            · (intro w hSw; (try dsimp only at hSw); go_simp; try with_reducible rfl)
            simp only [Act.put, List.setIfInBounds_toArray, List.set_cons_zero, List.set_cons_succ]
            refine takeH (i := 3) (v := ?_) rfl (by kernel_rfl) (by kernel_rfl) (by kernel_rfl) (fun _ _ _ h => h) (Or.inl ⟨by rfl, ?_⟩) hH ?_
            rotate_left
            · (intro w hSw; (try dsimp only at hSw); go_simp; try with_reducible rfl)
            simp only [Act.put, List.setIfInBounds_toArray, List.set_cons_zero, List.set_cons_succ]
            refine takeH (i := 5) (v := ?_) rfl (by kernel_rfl) (by kernel_rfl) (by kernel_rfl) (fun _ _ _ h => h) (Or.inl ⟨by rfl, ?_⟩) hH ?_
            rotate_left
            · (intro w hSw; (try dsimp only at hSw); go_simp; try with_reducible rfl)
            simp only [Act.put, List.setIfInBounds_toArray, List.set_cons_zero, List.set_cons_succ]
            refine takeH (i := 6) (v := ?_) rfl (by kernel_rfl) (by kernel_rfl) (by kernel_rfl) (fun _ _ _ h => h) (Or.inl ⟨by rfl, ?_⟩) hH ?_
            rotate_left
            · (intro w hSw; (try dsimp only at hSw); go_simp; try with_reducible rfl)
            simp only [Act.put, List.setIfInBounds_toArray, List.set_cons_zero, List.set_cons_succ]
            refine takeH (i := 9) (v := ?_) rfl (by kernel_rfl) (by kernel_rfl) (by kernel_rfl) (fun _ _ _ h => h) (Or.inl ⟨by rfl, ?_⟩) hH ?_
            rotate_left
            · (intro w hSw; (try dsimp only at hSw); go_simp; try with_reducible rfl)
            simp only [Act.put, List.setIfInBounds_toArray, List.set_cons_zero, List.set_cons_succ]
            refine takeH (i := 11) (v := ?_) rfl (by kernel_rfl) (by kernel_rfl) (by kernel_rfl) (fun _ _ _ h => h) (Or.inl ⟨by rfl, ?_⟩) hH ?_
            rotate_left
            · (intro w hSw; (try dsimp only at hSw); go_simp; try with_reducible rfl)
            simp only [Act.put, List.setIfInBounds_toArray, List.set_cons_zero, List.set_cons_succ]
            refine takeH (i := 12) (v := ?_) rfl (by kernel_rfl) (by kernel_rfl) (by kernel_rfl) (fun _ _ _ h => h) (Or.inl ⟨by rfl, ?_⟩) hH ?_
            rotate_left
            · (intro w hSw; (try dsimp only at hSw); go_simp; try with_reducible rfl)
            simp only [Act.put, List.setIfInBounds_toArray, List.set_cons_zero, List.set_cons_succ]
            refine takeH (i := 13) (v := ?_) rfl (by kernel_rfl) (by kernel_rfl) (by kernel_rfl) (fun _ _ _ h => h) (Or.inl ⟨by rfl, ?_⟩) hH ?_
            rotate_left
            · (intro w hSw; (try dsimp only at hSw); go_simp; try with_reducible rfl)
            simp only [Act.put, List.setIfInBounds_toArray, List.set_cons_zero, List.set_cons_succ]
            refine takeH (i := 14) (v := ?_) rfl (by kernel_rfl) (by kernel_rfl) (by kernel_rfl) (fun _ _ _ h => h) (Or.inl ⟨by rfl, ?_⟩) hH ?_
            rotate_left
            · (intro w hSw; (try dsimp only at hSw); go_simp; try with_reducible rfl)
            simp only [Act.put, List.setIfInBounds_toArray, List.set_cons_zero, List.set_cons_succ]
            refine takeH (i := 15) (v := ?_) rfl (by kernel_rfl) (by kernel_rfl) (by kernel_rfl) (fun _ _ _ h => h) (Or.inl ⟨by rfl, ?_⟩) hH ?_
            rotate_left
            · (intro w hSw; (try dsimp only at hSw); go_simp; try with_reducible rfl)
            simp only [Act.put, List.setIfInBounds_toArray, List.set_cons_zero, List.set_cons_succ]
            refine oneH (i := 4) rfl (by kernel_rfl) (fun K hK => ?_)
            go_simp
            go_at_call 43
            refine (HLN1.out _).mono ?_; rintro e w3 ⟨rfl, hB3⟩
            refine hK.out _ _ (HS.out _ hB3) (fun hH => ?_)
            clear hK K
            refine oneH (i := 7) rfl (by kernel_rfl) (fun K hK => ?_)
            go_simp
            go_at_call 41
            refine (HQT.out _).mono ?_; rintro e w5 ⟨rfl, hB6⟩
            have hB3 := hB3.trans (hB6.mono hB3.size)
            refine hK.out _ _ (HS.out _ hB3) (fun hH => ?_)
            clear hK K
            refine takeH (i := 8) (v := ?_) rfl (by kernel_rfl) (by kernel_rfl) (by kernel_rfl) (fun _ _ _ h => h) (Or.inl ⟨by rfl, ?_⟩) hH ?_
            rotate_left
            · (intro w hSw; (try dsimp only at hSw); go_simp; try with_reducible rfl)
            simp only [Act.put, List.setIfInBounds_toArray, List.set_cons_zero, List.set_cons_succ]
            refine takeH (i := 10) (v := ?_) rfl (by kernel_rfl) (by kernel_rfl) (by kernel_rfl) (fun _ _ _ h => h) (Or.inl ⟨by rfl, ?_⟩) hH ?_
            rotate_left
            · (intro w hSw; (try dsimp only at hSw); go_simp; try with_reducible rfl)
            simp only [Act.put, List.setIfInBounds_toArray, List.set_cons_zero, List.set_cons_succ]
            refine oneH (i := 16) rfl (by kernel_rfl) (fun K hK => ?_)
            go_simp
            go_at_call 31
            refine (HCK.out _ (HWB.out _ hB3)).mono ?_; rintro e w4 ⟨rfl, hB4⟩
            have hB5 := hB3.trans (hB4.mono hB3.size)
            refine hK.out _ _ (HS.out _ hB5) (fun hH => ?_)
            clear hK K
            refine takeH (i := 17) (v := ?_) rfl (by kernel_rfl) (by kernel_rfl) (by kernel_rfl) (fun _ _ _ h => h) (Or.inl ⟨by rfl, ?_⟩) hH ?_
            rotate_left
            · (intro w hSw; (try dsimp only at hSw); go_simp; try with_reducible rfl)
            simp only [Act.put, List.setIfInBounds_toArray, List.set_cons_zero, List.set_cons_succ]
            refine oneH (i := 18) rfl (by kernel_rfl) (fun K hK => ?_)
            go_simp
            refine hK.out _ _ (HS.out _ (below_al hB5 _)) (fun hH => ?_)
            clear hK K
            refine wpAnyH_done (by kernel_rfl) ?_ _
            unfold TailPost
            simp only [List.drop_succ_cons, List.drop_zero]
            have HB4 := hide hB5
            have hs4 := hB5.size
            have HO4 := hide (own_below HOD.out hB5)
            clear hH hB3 hB4 hB5 HCK HLN1 HS HWB HQT
            go_wp2_with (at_builtin; refine wpList_append_all _ rfl (.tmp 66) (.tmp 84) _ rfl w1.heap.size 9 i0 _ 1 16 Tryd.underlying70 hi0 hz0 hz1 hz2 rfl (by omega) u9 i (strsV (L.take i)) rfl (HO4.out.alloc _) (some ⟨w4.heap.size, 0, none⟩) 1 1 [.string (LB ++ QT ++ ⟨#[58, 32]⟩ ++ T)] rfl (by intro h; cases h) rfl (by intro ad' h; injection h with h; subst h; exact World.news_of_block (heap_alloc_new _ _)) one_str (by unfold maxLen; omega) (by omega) (by simp; omega) ?_)
            intro v' w' o1 o2
            have HB5 := hide (Below.grown (below_al (HBD.out.trans (HB4.out.mono hbsd)) (.cells #[.string (LB ++ QT ++ ⟨#[58, 32]⟩ ++ T)] 9)) o2.out (by simp; omega) (fun k e => (HO4.out.lt k e).1))
            have HO5 := hide (show w'.ownsRow w1.heap.size 9 1 v' (i + 1) (strsV (L.take (i + 1))) by rw [HXX.out]; exact o1.out)
            clear o1 o2 HO4 HOD HB4 HBD HXX
            go_wp2_with fail
            go_roundw
            case rel => exact ⟨i + 1, by go_num, by omega, HB5, HO5⟩
            case measure => simp [intOf]; omega
          · obtain rfl : x = i := by omega
            obtain ⟨c0, c1, c2, c3, c4, c5⟩ := HC.out _ hB.out
            have HO1 := hide (show wr.ownsRow w1.heap.size 9 1 u9 x (strsV L) by
              have e : L.take x = L := by rw [← HLL.out, List.take_length]
              have := hO.out
              rw [e] at this; exact this)
            have HJ := hide fun W (h : Below wr.heap.size wr W) => joinC_run u9 L w1.heap.size W (by rw [HLL.out]; exact own_below HO1.out h) HSUM.out
            have HB1 := hide hB.out
            obtain ⟨A9, c9, rfl⟩ := own_form HO1.out
            clear hO hB hlt hi HI HX HLA HO1 ih
            by_cases hx0 : x = 0
            · subst hx0
              have HZ := hide (show res = ⟨#[123]⟩ ++ ⟨#[125]⟩ from HWR.out.trans (wrap_nil HLL.out))
              go_wp2_with fail
              go_ret
              exact ⟨ret_str HZ.out.symm, hwB⟩
            · have HZ := hide (show res = ⟨#[123]⟩ ++ joinC L ++ lineB true lv ++ ⟨#[125]⟩ from HWR.out.trans (wrap_cons (by rw [HLL.out]; exact hx0)))
              have hJs := Nat.le_trans (joinC_size L) HSUM.out
              have hLs := lineB_size true lv
              have hg1 : ((x : Int) == 0) = false := by simp; omega
              have HLM := hide fun W => HLN0.out W
              obtain ⟨J, hJ⟩ : ∃ J, J = joinC L := ⟨_, rfl⟩
              obtain ⟨LB, hLB⟩ : ∃ J, J = lineB true lv := ⟨_, rfl⟩
              rw [← hJ] at HJ HZ hJs
              rw [← hLB] at HLM HZ hLs
              have HCW := hide fun W (h : Below wr.heap.size wr W) => (HC.out W (HB1.out.trans (h.mono HB1.out.size))).1
              have ho1 : ¬ 9223372036854775807 < 1 + J.size := by omega
              have ho2 : ¬ 9223372036854775807 < 1 + J.size + LB.size := by omega
              have ho3 : ¬ 9223372036854775807 < 1 + J.size + LB.size + 1 := by omega
              clear hJ hLB HSUM HWR hx0
              go_upto_region 28 with fail
              obtain ⟨wd, hwd⟩ : ∃ W, W = wr.drew := ⟨_, rfl⟩
              have hBD : Below wr.heap.size wr wd := by rw [hwd]; exact (Below.refl _ _).drew
              have HJD := hide fun W (h : Below wd.heap.size wd W) => HJ.out W (hBD.trans (h.mono hBD.size))
              have HCD := hide fun W (h : Below wd.heap.size wd W) => HCW.out W (hBD.trans (h.mono hBD.size))
              have HBD := hide (hwB.trans (hBD.mono hwB.size))
              clear hBD HJ HCW hwB HB1 c0 c1 c2 c3 c4 c5
              refine region_two 9 (fun W => W.cell? ⟨gl, 0, none⟩ = some (.bool true)) (by kernel_rfl) (by kernel_rfl) (by rw [← hwd]; exact HCD.out _ (Below.refl _ _)) (fun hH => ?_)
              rw [← hwd] at hH ⊢
              clear hwd
              simp only [List.take_succ_cons, List.take_zero]
              refine takeH (i := 0) (v := ?_) rfl (by kernel_rfl) (by kernel_rfl) (by kernel_rfl) (fun _ _ _ h => h) (Or.inl ⟨by rfl, ?_⟩) hH ?_
              rotate_left
              · (intro w hSw; (try dsimp only at hSw); go_simp; try with_reducible rfl)
              simp only [Act.put, List.setIfInBounds_toArray, List.set_cons_zero, List.set_cons_succ]
              refine takeH (i := 1) (v := ?_) rfl (by kernel_rfl) (by kernel_rfl) (by kernel_rfl) (fun _ _ _ h => h) (Or.inl ⟨by rfl, ?_⟩) hH ?_
              rotate_left
              · (intro w hSw; (try dsimp only at hSw); go_simp; try with_reducible rfl)
              simp only [Act.put, List.setIfInBounds_toArray, List.set_cons_zero, List.set_cons_succ]
              refine takeH (i := 4) (v := ?_) rfl (by kernel_rfl) (by kernel_rfl) (by kernel_rfl) (fun _ _ _ h => h) (Or.inl ⟨by rfl, ?_⟩) hH ?_
              rotate_left
              · (intro w hSw; (try dsimp only at hSw); go_simp; try with_reducible rfl)
              simp only [Act.put, List.setIfInBounds_toArray, List.set_cons_zero, List.set_cons_succ]
              refine takeH (i := 5) (v := ?_) rfl (by kernel_rfl) (by kernel_rfl) (by kernel_rfl) (fun _ _ _ h => h) (Or.inl ⟨by rfl, ?_⟩) hH ?_
              rotate_left
              · (intro w hSw; (try dsimp only at hSw); go_simp; try with_reducible rfl)
              simp only [Act.put, List.setIfInBounds_toArray, List.set_cons_zero, List.set_cons_succ]
              refine takeH (i := 8) (v := ?_) rfl (by kernel_rfl) (by kernel_rfl) (by kernel_rfl) (fun _ _ _ h => h) (Or.inl ⟨by rfl, ?_⟩) hH ?_
              rotate_left
              · (intro w hSw; (try dsimp only at hSw); go_simp; try with_reducible rfl)
              simp only [Act.put, List.setIfInBounds_toArray, List.set_cons_zero, List.set_cons_succ]
              refine oneH (i := 2) rfl (by kernel_rfl) (fun K hK => ?_)
              go_simp
              go_at_call 44
              refine (HJD.out _ (Below.refl _ _)).mono ?_; rintro e w3 ⟨rfl, hB3⟩
              refine hK.out _ _ (HCD.out _ hB3) (fun hH => ?_)
              clear hK K
              refine takeH (i := 3) (v := ?_) rfl (by kernel_rfl) (by kernel_rfl) (by kernel_rfl) (fun _ _ _ h => h) (Or.inl ⟨by rfl, ?_⟩) hH ?_
              rotate_left
              · (intro w hSw; (try dsimp only at hSw); go_simp; try with_reducible rfl)
              simp only [Act.put, List.setIfInBounds_toArray, List.set_cons_zero, List.set_cons_succ]
              refine oneH (i := 6) rfl (by kernel_rfl) (fun K hK => ?_)
              go_simp
              go_at_call 43
              refine (HLM.out _).mono ?_; rintro e w4 ⟨rfl, hB4⟩
              have hB5 := hB3.trans (hB4.mono hB3.size)
              refine hK.out _ _ (HCD.out _ hB5) (fun hH => ?_)
              clear hK K
              refine takeH (i := 7) (v := ?_) rfl (by kernel_rfl) (by kernel_rfl) (by kernel_rfl) (fun _ _ _ h => h) (Or.inl ⟨by rfl, ?_⟩) hH ?_
              rotate_left
              · (intro w hSw; (try dsimp only at hSw); go_simp; try with_reducible rfl)
              simp only [Act.put, List.setIfInBounds_toArray, List.set_cons_zero, List.set_cons_succ]
              refine wpAnyH_done (by kernel_rfl) ?_ _
              unfold TailPost
              simp only [List.drop_succ_cons, List.drop_zero]
              have HB6 := hide (HBD.out.trans (hB5.mono HBD.out.size))
              clear hH hB3 hB4 hB5 HJD HLM HCD HBD
              go_wp2_with fail
              go_ret
              exact ⟨ret_str HZ.out.symm, HB6.out⟩
end Go.Proofs.YtmmbbndoimleaaaDoor

/- laid, Text, Indent of package jsontext. -/
namespace Go.Proofs.YtmmbbndoimleaaaDoor
open Go.RowKit

/-- The document, if the data is valid. -/
def jtD (b : Bool) (m : Nat) (d : Dt) : ByteArray := if checkD d = 0 then jtF b m 0 d else ByteArray.empty
theorem jtext_run (b : Bool) (m r lv : Nat) (d : Dt) (A : Option Addr) (c : Nat) (A' : Option Addr) (c' : Nat) (w : World) (h1 : lv + r ≤ 16) (h2 : checkF r d = 0) (h3 : Parts w w.heap.size m d A c A' c') (h4 : jbF m d ≤ 1000000000) (h5 : Tab w) :
    Calls Tryd.prog 31 #[.agg #[.bool b], datV d A c A' c', .int .i64 lv] w fun e w' => e = .returned (.string (jtF b m lv d)) ∧ Below w.heap.size w w' := by
  cases b with
  | false => exact jtext_false m r lv d A c A' c' w h1 h2 h3 h4 h5
  | true => exact jtext_true m r lv d A c A' c' w h1 h2 h3 h4 h5
set_option maxRecDepth 20000 in
theorem laid_run (b : Bool) (m : Nat) (d : Dt) (A : Option Addr) (c : Nat) (A' : Option Addr) (c' : Nat) (w : World) (hp : Parts w w.heap.size m d A c A' c') (hf : FitD 16 d) (hb : jbF m d ≤ 1000000000) (ht : Tab w) :
    Calls Tryd.prog 18 #[datV d A c A' c', .agg #[.bool b]] w fun e w' => e = .returned (.tuple #[.string (jtD b m d), .int .i64 (checkD d)]) ∧ Below w.heap.size w w' := by
  have HC := hide fun w' (hB : Below w.heap.size w w') => Check_run m d A c A' c' w' (hp.turn (Same.of_below hB) hB.size) hf
  have HT := hide fun (hz : checkD d = 0) w' (hB : Below w.heap.size w w') => jtext_run b m 16 0 d A c A' c' w' (by omega) hz (hp.turn (Same.of_below hB) hB.size) hb (tab_below ht hB)
  unfold jtD
  obtain ⟨z, hz⟩ : ∃ z, z = checkD d := ⟨_, rfl⟩
  rw [← hz] at HC HT ⊢
  obtain ⟨T, hT⟩ : ∃ z, z = jtF b m 0 d := ⟨_, rfl⟩
  rw [← hT] at HT ⊢
  unfold datV datCs at HC HT
  unfold datV datCs
  obtain ⟨h1, h2, h3, h4⟩ := hp.lens
  have hm := maxLen_le h2; have hm' := maxLen_le h4
  obtain ⟨k, hk⟩ : ∃ k, k = kD d := ⟨_, rfl⟩
  obtain ⟨n, hn'⟩ : ∃ k, k = nD d := ⟨_, rfl⟩
  obtain ⟨s, hs⟩ : ∃ k, k = sD d := ⟨_, rfl⟩
  obtain ⟨x, hx⟩ : ∃ k, k = (iD d).length := ⟨_, rfl⟩
  obtain ⟨y, hy⟩ : ∃ k, k = (mD d).length := ⟨_, rfl⟩
  rw [← hk, ← hn', ← hs, ← hx, ← hy] at HC HT ⊢
  rw [← hx] at h1
  rw [← hy] at h3
  clear hp hf hb ht hz hT hk hn' hs hx hy h2 h4
  go_enter Tryd.func18, Tryd.ntmps18
  go_upto_region 1 with fail
  obtain ⟨w0, g, e1, e2, hBL, c0, c1, c2, c3, c4, hROW⟩ := boxD w k n s (.slice A x c) (.slice A' y c')
  rw [e1]
  have hRL : Row (w0.alloc (.cells #[.bool b] 53)) w0.heap.size 53 [.bool b] := Row.new w0 _ _
  have hs0 : w.heap.size + 1 = w0.heap.size := by rw [← e1]; simp
  rw [e2, ← e2, hs0, e2]
  obtain ⟨w1, hw1⟩ : ∃ W, W = w0.alloc (.cells #[.bool b] 53) := ⟨_, rfl⟩
  obtain ⟨gl, hgl⟩ : ∃ g, g = w0.heap.size := ⟨_, rfl⟩
  rw [← hw1, ← hgl] at hRL ⊢
  have hB01 : Below w0.heap.size w0 w1 := by rw [hw1]; exact (Below.refl _ _).alloc (Nat.le_refl _) _
  have HBL := hide (hBL.trans (hB01.mono hBL.size)); have HROW := hide (hROW.below hB01); have HRL := hide hRL
  clear e1 e2 hBL hROW hRL hB01 hw1 hgl hs0 c0 c1 c2 c3 c4
  obtain ⟨c0, c1, c2, c3, c4⟩ := row5 HROW.out
  have q0 : w1.cell? ⟨gl, 0, none⟩ = some (.bool b) := HRL.out.cell 0
  go_wp2_with fail
  refine (HC.out _ HBL.out).mono ?_; rintro e w2 ⟨rfl, hB2⟩
  obtain ⟨c0', c1', c2', c3', c4'⟩ := row5 (HROW.out.below hB2)
  have q0' : w2.cell? ⟨gl, 0, none⟩ = some (.bool b) := (HRL.out.below hB2).cell 0
  have HB2 := hide (HBL.out.trans (hB2.mono HBL.out.size))
  clear c0 c1 c2 c3 c4 q0 hB2 HROW HBL HC HRL
  by_cases hz : z = 0
  · subst hz
    have HT1 := hide (HT.out rfl)
    clear HT
    go_wp2_with fail
    refine (HT1.out _ HB2.out).mono ?_; rintro e w3 ⟨rfl, hB3⟩
    have HB3 := hide (HB2.out.trans (hB3.mono HB2.out.size))
    clear hB3
    go_wp2_with fail
    go_ret2
    exact ⟨rfl, HB3.out⟩
  · have g1 : (z != 0) = true := by simpa using hz
    clear HT
    go_wp2_with fail
    go_ret2
    exact ⟨by first | rfl | (rw [if_neg hz]; rfl) | (simp [hz]; rfl), HB2.out⟩
set_option maxRecDepth 20000 in
theorem jText_run (m : Nat) (d : Dt) (A : Option Addr) (c : Nat) (A' : Option Addr) (c' : Nat) (w : World) (hp : Parts w w.heap.size m d A c A' c') (hf : FitD 16 d) (hb : jbF m d ≤ 1000000000) (ht : Tab w) :
    Calls Tryd.prog 10 #[datV d A c A' c'] w fun e w' => e = .returned (.tuple #[.string (jtD false m d), .int .i64 (checkD d)]) ∧ Below w.heap.size w w' := by
  have HC := hide fun w' (hB : Below w.heap.size w w') => laid_run false m d A c A' c' w' (hp.turn (Same.of_below hB) hB.size) hf hb (tab_below ht hB)
  obtain ⟨z, hz⟩ : ∃ z, z = checkD d := ⟨_, rfl⟩
  obtain ⟨T, hT⟩ : ∃ z, z = jtD false m d := ⟨_, rfl⟩
  rw [← hz, ← hT] at HC ⊢
  unfold datV datCs at HC
  unfold datV datCs
  clear hp hf hb ht hz hT
  go_enter Tryd.func10, Tryd.ntmps10
  go_upto_region 1 with fail
  obtain ⟨w1, g, e1, e2, hBL, c0, c1, c2, c3, c4, _⟩ := boxD w (kD d) (nD d) (sD d) (.slice A (iD d).length c) (.slice A' (mD d).length c')
  rw [e1, e2]
  have HBL := hide hBL
  clear e1 e2 hBL
  go_wp2_with fail
  refine (HC.out _ HBL.out).mono ?_; rintro e w2 ⟨rfl, hB2⟩
  have HB2 := hide (HBL.out.trans (hB2.mono HBL.out.size))
  go_wp2_with fail
  go_ret2
  exact ⟨rfl, HB2.out⟩
set_option maxRecDepth 20000 in
theorem jIndent_run (m : Nat) (d : Dt) (A : Option Addr) (c : Nat) (A' : Option Addr) (c' : Nat) (w : World) (hp : Parts w w.heap.size m d A c A' c') (hf : FitD 16 d) (hb : jbF m d ≤ 1000000000) (ht : Tab w) :
    Calls Tryd.prog 12 #[datV d A c A' c'] w fun e w' => e = .returned (.tuple #[.string (jtD true m d), .int .i64 (checkD d)]) ∧ Below w.heap.size w w' := by
  have HC := hide fun w' (hB : Below w.heap.size w w') => laid_run true m d A c A' c' w' (hp.turn (Same.of_below hB) hB.size) hf hb (tab_below ht hB)
  obtain ⟨z, hz⟩ : ∃ z, z = checkD d := ⟨_, rfl⟩
  obtain ⟨T, hT⟩ : ∃ z, z = jtD true m d := ⟨_, rfl⟩
  rw [← hz, ← hT] at HC ⊢
  unfold datV datCs at HC
  unfold datV datCs
  clear hp hf hb ht hz hT
  go_enter Tryd.func12, Tryd.ntmps12
  go_upto_region 1 with fail
  obtain ⟨w1, g, e1, e2, hBL, c0, c1, c2, c3, c4, _⟩ := boxD w (kD d) (nD d) (sD d) (.slice A (iD d).length c) (.slice A' (mD d).length c')
  rw [e1, e2]
  have HBL := hide hBL
  clear e1 e2 hBL
  go_wp2_with fail
  refine (HC.out _ HBL.out).mono ?_; rintro e w2 ⟨rfl, hB2⟩
  have HB2 := hide (HBL.out.trans (hB2.mono HBL.out.size))
  go_wp2_with fail
  go_ret2
  exact ⟨rfl, HB2.out⟩
end Go.Proofs.YtmmbbndoimleaaaDoor

/- clean: data with sorted members and without unused fields. -/
namespace Go.Proofs.YtmmbbndoimleaaaDoor
open Go.RowKit

def FitC : Nat → Dt → Prop
  | 0, _ => True
  | r + 1, d => ((iD d).length ≤ 1000000 ∧ (mD d).length ≤ 1000000) ∧ ∀ x ∈ kids d, FitC r x
def cleanF : Nat → Int → Dt → Dt
  | 0, _, _ => zeroD
  | m + 1, lv, d => if 16 < lv then mkD (kD d) 0 ⟨#[]⟩ [] [] else
      mkD (kD d) (if kD d = 2 ∨ kD d = 3 then nD d else 0) (if kD d = 4 then sD d else ⟨#[]⟩) (if kD d = 5 then (iD d).map (cleanF m (lv + 1)) else [])
        (if kD d = 6 then sortK Prod.fst ((mD d).map fun x => (x.1, cleanF m (lv + 1) x.2)) else [])
def CleanPost (w : World) (m : Nat) (r : Dt) (e : Ending) (w' : World) : Prop := ∃ a c a' c', e = .returned (datV r a c a' c') ∧ Below w.heap.size w w' ∧ PZ w.heap.size none w' m r a c a' c'

set_option maxRecDepth 20000 in
set_option maxHeartbeats 4000000 in
theorem clean_run : ∀ (m : Nat) (d : Dt) (A : Option Addr) (c : Nat) (A' : Option Addr) (c' : Nat) (lv : Int) (w : World), Parts w w.heap.size m d A c A' c' → FitC m d → 1 ≤ lv → lv ≤ 17 →
    Calls Tryd.prog 29 #[datV d A c A' c', .int .i64 lv] w (CleanPost w m (cleanF m lv d)) := by
  intro m
  induction m with
  | zero => intro d A c A' c' lv w hp; exact hp.elim
  | succ m ih =>
    intro d A c A' c' lv w hp hf hlv1 hlv2
    obtain ⟨⟨h1, h2, h3, h4⟩, hI, hM⟩ := hp
    have hm := maxLen_le h2; have hm' := maxLen_le h4
    obtain ⟨hkl, hkm⟩ := hf.1
    have HCK := hide fun W X a q a' q' (hx : X ∈ kids d) (hX : Parts w w.heap.size m X a q a' q') (hB : Below w.heap.size w W) (h1 : lv + 1 ≤ 17) => ih X a q a' q' (lv + 1) W (hX.turn (Same.of_below hB) hB.size) (hf.2 X hx) (by omega) h1
    unfold kids at HCK
    have HI := Lib.hid hI; have HM := Lib.hid hM
    obtain ⟨i0, hi0, hz0, hz1, hz2⟩ := info_parts infoD
    obtain ⟨i1, hi1, hy0, hy1, hy2⟩ := info_parts infoM
    obtain ⟨r, hr⟩ : ∃ r, r = cleanF (m + 1) lv d := ⟨_, rfl⟩
    rw [← hr]
    unfold cleanF at hr
    unfold datV datCs
    obtain ⟨k, hk⟩ : ∃ k, k = kD d := ⟨_, rfl⟩
    obtain ⟨n, hn'⟩ : ∃ k, k = nD d := ⟨_, rfl⟩
    obtain ⟨s, hs⟩ : ∃ k, k = sD d := ⟨_, rfl⟩
    obtain ⟨xs, hxs⟩ : ∃ k, k = iD d := ⟨_, rfl⟩
    obtain ⟨ys, hys⟩ : ∃ k, k = mD d := ⟨_, rfl⟩
    rw [← hk, ← hn', ← hs, ← hxs, ← hys] at hr
    rw [← hxs] at HI h1 hkl HCK
    rw [← hys] at HM h3 hkm HCK
    rw [← hk, ← hn', ← hs, ← hxs, ← hys]
    obtain ⟨x, hx⟩ : ∃ k, k = xs.length := ⟨_, rfl⟩
    obtain ⟨y, hy⟩ : ∃ k, k = ys.length := ⟨_, rfl⟩
    rw [← hx] at h1 hkl
    rw [← hy] at h3 hkm
    rw [← hx, ← hy]
    have HX := Lib.hid hx; have HY := Lib.hid hy; have HRES := Lib.hid hr
    clear hr hk hn' hs hxs hys hx hy h2 h4 hM hI hf ih
    go_enter Tryd.func29, Tryd.ntmps29
    go_upto_region 2 with fail
    obtain ⟨w1, g, e1, e2, hB1, _, _, _, _, _, hR1⟩ := boxD w k n s (.slice A x c) (.slice A' y c')
    obtain ⟨w2, g4, e3, e4, hB2, _, _, _, _, _, hR2⟩ := boxD w1 0 0 ⟨#[]⟩ (.slice none 0 0) (.slice none 0 0)
    obtain ⟨w3, g5, e5, e6, hB3, _, _, _, _, _, hR3⟩ := boxD w2 k 0 ⟨#[]⟩ (.slice none 0 0) (.slice none 0 0)
    have e7 : w.heap.size + 1 = g4 := by rw [← e4, ← e1]; simp
    have e8 : g4 + 1 = g5 := by rw [← e6, ← e3, ← e4]; simp
    have e9 : w3.heap.size = g5 + 1 := by rw [← e5, ← e6]; simp
    rw [e7, e8, e1, e2, e3, e5]
    obtain ⟨b0, hb0⟩ : ∃ b, b = g + 3 := ⟨_, rfl⟩
    have HST := hide (show CSt w g g4 g5 b0 [.int .i64 k, .int .i64 n, .string s, .slice A x c, .slice A' y c'] [.int .i64 0, .int .i64 0, .string ⟨#[]⟩, .slice none 0 0, .slice none 0 0] [.int .i64 k, .int .i64 0, .string ⟨#[]⟩, .slice none 0 0, .slice none 0 0] w3 from
      ⟨⟨e2, by omega, by omega, hb0⟩, by omega, (hB1.trans (hB2.mono hB1.size)).trans (hB3.mono (Nat.le_trans hB1.size hB2.size)), (hR1.below hB2).below hB3, hR2.below hB3, hR3⟩)
    obtain ⟨s0, s1, s2, s3, s4⟩ := row5 HST.out.2.2.2.1
    obtain ⟨t0, t1, t2, t3, t4⟩ := row5 HST.out.2.2.2.2.2
    have f0 := HST.out.2.2.2.2.1.frozen 0
    have f1 := HST.out.2.2.2.2.1.frozen 1
    have f2 := HST.out.2.2.2.2.1.frozen 2
    have f3 := HST.out.2.2.2.2.1.frozen 3
    have f4 := HST.out.2.2.2.2.1.frozen 4
    have q1 := HST.out.2.2.2.2.2.frozen 1
    have q2 := HST.out.2.2.2.2.2.frozen 2
    have q3 := HST.out.2.2.2.2.2.frozen 3
    have q4 := HST.out.2.2.2.2.2.frozen 4
    obtain ⟨r0, r1, r2, r3, r4⟩ := row5 HST.out.2.2.2.2.1
    have hgg : g4 ≠ g5 := by have := HST.out.1; omega
    clear e1 e2 e3 e4 e5 e6 e7 e8 e9 hB1 hB2 hB3 hR1 hR2 hR3 hb0
    by_cases hlv : 16 < lv
    · have HE := hide (show r = mkD k 0 ⟨#[]⟩ [] [] by rw [HRES.out, if_pos hlv])
      clear HRES
      go_wp2_with fail
      refine bodyPost_ret (results_dat rfl _ _ g4 _ _ _ _ _ rfl (row_set5 HST.out.2.2.2.2.1 _ _ _ _ _)) rfl ?_
      exact clean_fin HST.out (DZ.nil _ _ _) (MZ.nil _ _ _) HE.out _ _ _ _ _
    · have hlv3 : lv + 1 ≤ 17 := by omega
      have HE := hide (show r = mkD k (if k = 2 ∨ k = 3 then n else 0) (if k = 4 then s else ⟨#[]⟩) (if k = 5 then xs.map (cleanF m (lv + 1)) else []) (if k = 6 then sortK Prod.fst (ys.map fun x => (x.1, cleanF m (lv + 1) x.2)) else []) by rw [HRES.out, if_neg hlv])
      have w1' : IntKind.i64.wrap (lv + 1) = lv + 1 := IntWalk.i64_in _ (by omega)
      clear HRES
      by_cases k2 : k = 2
      · subst k2
        have HE2 := hide (show r = mkD 2 n ⟨#[]⟩ [] [] by rw [HE.out]; rfl)
        have HS1 := hide (HST.out.set 1 (.int .i64 n))
        clear HE
        go_wp2_with fail
        refine bodyPost_ret (results_dat rfl _ _ g4 _ _ _ _ _ rfl (row_set5 HS1.out.2.2.2.2.1 _ _ _ _ _)) rfl ?_
        exact clean_fin HS1.out (DZ.nil _ _ _) (MZ.nil _ _ _) HE2.out _ _ _ _ _
      by_cases k3 : k = 3
      · subst k3
        have HE2 := hide (show r = mkD 3 n ⟨#[]⟩ [] [] by rw [HE.out]; rfl)
        have HS1 := hide (HST.out.set 1 (.int .i64 n))
        clear HE
        go_wp2_with fail
        refine bodyPost_ret (results_dat rfl _ _ g4 _ _ _ _ _ rfl (row_set5 HS1.out.2.2.2.2.1 _ _ _ _ _)) rfl ?_
        exact clean_fin HS1.out (DZ.nil _ _ _) (MZ.nil _ _ _) HE2.out _ _ _ _ _
      by_cases k4 : k = 4
      · subst k4
        have HE2 := hide (show r = mkD 4 0 s [] [] by rw [HE.out]; rfl)
        have HS1 := hide (HST.out.set 2 (.string s))
        clear HE
        go_wp2_with fail
        refine bodyPost_ret (results_dat rfl _ _ g4 _ _ _ _ _ rfl (row_set5 HS1.out.2.2.2.2.1 _ _ _ _ _)) rfl ?_
        exact clean_fin HS1.out (DZ.nil _ _ _) (MZ.nil _ _ _) HE2.out _ _ _ _ _
      by_cases k5 : k = 5
      · subst k5
        have HE2 := hide (show r = mkD 5 0 ⟨#[]⟩ (xs.map (cleanF m (lv + 1))) [] by rw [HE.out]; rfl)
        obtain ⟨L, hL⟩ : ∃ L, L = xs.map (cleanF m (lv + 1)) := ⟨_, rfl⟩
        rw [← hL] at HE2
        have HLL := Lib.hid (show L.length = x by rw [hL, List.length_map, HX.out])
        have HL := Lib.hid hL
        have HO := hide (show OwnD (PZ b0 (Value.slice none 0 0).ownBlock w3 m) w3 b0 (.slice none 0 0) (L.take 0) from ⟨[], World.ownsRow_nil _ _ _ _, rfl⟩)
        clear HE hL
        go_wp2_with fail
        go_loopw [7, 34] (fun _ iv wr => ∃ (i : Nat) (u : Value), iv = .int .i64 i ∧ i ≤ x ∧ Hid (CSt w g g4 g5 b0 [.int .i64 5, .int .i64 n, .string s, .slice A x c, .slice A' y c'] [.int .i64 0, .int .i64 0, .string ⟨#[]⟩, .slice none 0 0, .slice none 0 0] [.int .i64 5, .int .i64 0, .string ⟨#[]⟩, u, .slice none 0 0] wr) ∧ Hid (OwnD (PZ b0 u.ownBlock wr m) wr b0 u (L.take i))) (fun _ iv _ => x - (intOf iv).toNat)
        case atStart => exact ⟨0, _, rfl, Nat.zero_le _, HST, HO⟩
        case round =>
          clear HO HST s0 s1 s2 s3 s4 t0 t1 t2 t3 t4 f0 f1 f2 f3 f4 q1 q2 q3 q4 r0 r1 r2 r3 r4
          obtain ⟨i, u, rfl, hi, hST, hO⟩ := hrel
          by_cases hlt : i < x
          · have hlt' : i < xs.length := by rw [← HX.out]; exact hlt
            obtain ⟨ad, rfl, hb, a, q, a', q', hfive, hpts⟩ := HI.out i _ (List.getElem?_eq_getElem hlt')
            obtain ⟨X, hX⟩ : ∃ X, X = xs[i] := ⟨_, rfl⟩
            have hmem : X ∈ xs ++ ys.map Prod.snd := List.mem_append.2 (.inl (hX ▸ List.getElem_mem hlt'))
            rw [← hX] at hfive hpts
            have hbb : (ad.add (i * 5)).block < w.heap.size := by rw [block_of_add]; exact hb
            obtain ⟨s0, s1, s2, s3, s4⟩ := hfive.same hbb (Same.of_below hST.out.2.2.1)
            have HXX := Lib.hid (show L.take (i + 1) = L.take i ++ [cleanF m (lv + 1) X] by
              have h1 : i < L.length := by rw [HLL.out]; exact hlt
              rw [List.take_add_one, List.getElem?_eq_getElem h1]
              have : L[i] = cleanF m (lv + 1) X := by
                have := HL.out; subst this; rw [List.getElem_map, hX]
              rw [this]; rfl)
            have HLT := Lib.hid (show (L.take i).length = i by rw [List.length_take, HLL.out]; omega)
            have HCK2 := hide fun W (hB : Below w.heap.size w W) => HCK.out W X a q a' q' hmem hpts hB hlv3
            unfold CleanPost datV datCs at HCK2
            obtain ⟨Y, hY⟩ : ∃ Y, Y = cleanF m (lv + 1) X := ⟨_, rfl⟩
            rw [← hY] at HCK2 HXX
            clear hY
            clear hfive hpts hX hlt' hb hbb hmem
            obtain ⟨zs, ho, hf⟩ := hO.out
            rw [HLT.out] at ho
            have HOW := hide ho; have HFL := hide hf
            clear ho hf hO
            go_upto_region 14 with fail
            obtain ⟨wa, b, e1, e2, hBa, _, _, _, _, _, hRa⟩ := boxD wr (kD X) (nD X) (sD X) (.slice a (iD X).length q) (.slice a' (mD X).length q')
            rw [e1, e2]
            have HSA := hide (hST.out.below hBa)
            have HRA := hide hRa
            have HBA := hide hBa
            have hbg : b ≠ g5 := by have := hST.out.1; have := hST.out.2.1; omega
            obtain ⟨t0, t1, t2, t3, t4⟩ := row5 HSA.out.2.2.2.2.2
            have q3 := HSA.out.2.2.2.2.2.frozen 3
            obtain ⟨d0, d1, d2, d3, d4⟩ := row5 hRa
            have HS := hide fun W (h : Below wa.heap.size wa W) => row5 (hRa.below h)
            have hb0a : b0 ≤ wa.heap.size := HSA.out.2.1
            have HSB := hide hST.out.2.1
            have HG5 := hide (show g5 < b0 by have := hST.out.1; omega)
            have HOA := hide (show wa.ownsRow b0 27 5 u i zs from own_below HOW.out hBa)
            have HBN := hide (show ∀ k, u.ownBlock = some k → some b ≠ some k from fun k e e' => by injection e' with e'; have := (HOW.out.lt k e).2; omega)
            have HWB := hide fun W (h : Below wa.heap.size wa W) => (hST.out.2.2.1.trans ((hBa.trans (h.mono hBa.size)).mono hST.out.2.2.1.size))
            clear e1 e2 hBa hRa s0 s1 s2 s3 s4 hST
            go_region_law (first
                | (go_simp; go_at_call 29; refine (HCK2.out _ (HWB.out _ (Below.refl _ _).drew)).mono ?_; rintro e w4 ⟨ra, rc, ra', rc', rfl, hB4, hP4⟩; have hB5 := (Below.refl wa.heap.size wa).drew.trans hB4; have hzA : w4.cell? ⟨g5, 3, none⟩ = some u := (HSA.out.below hB5).2.2.2.2.2.cell 3; have hzB : ∀ o, (w4.alloc o).cell? ⟨g5, 3, none⟩ = some u := fun o => (HSA.out.below (below_al hB5 o)).2.2.2.2.2.cell 3; have hzC := hB5.size)
                | (refine step_append_lies _ rfl (.tmp 39) (.tmp 44) _ rfl b0 27 i0 _ 5 80 Tryd.underlying24 hi0 hz0 hz1 hz2 rfl (by omega) u i zs rfl ((own_below HOA.out hB5).alloc _) ⟨w4.heap.size, 0, none⟩ 1 1 (datCs Y ra rc ra' rc') rfl rfl (World.news_of_block (heap_alloc_new _ _)) datCs_one (by omega) (by unfold maxLen; omega) (by omega) (by simp; omega) _ rfl ?_; intro gn cap w5 o1 o2 o3 o4; have hS5 := (HSA.out.below (below_al hB5 (.cells (datCs Y ra rc ra' rc').toArray 27))).grown o2 (fun k e => (HOA.out.lt k e).1); have z3 : w5.cell? ⟨g5, 3, none⟩ = some u := hS5.2.2.2.2.2.cell 3; have zf := hS5.2.2.2.2.2.frozen 3))
            all_goals
              have HS9 := hide (hS5.set 3 (.slice (some ⟨gn, 0, none⟩) (i + 1) cap))
              have HO9 := hide (own_push (i := 3) (u' := .slice (some ⟨gn, 0, none⟩) (i + 1) cap) HOW.out HFL.out HLT.out HG5.out HSB.out HBA.out.size (below_al (HBA.out.trans (hB5.mono HBA.out.size)) _) hP4 (below_al (Below.refl _ _) _) o1 o2 o3)
              rw [← HXX.out] at HO9
              clear o1 o2 o3 o4 hB5 hB4 hP4 hzA hzB hzC hS5 z3 zf HS HRA HBA HSA HOA HOW HFL HBN HWB HCK2 HXX t0 t1 t2 t3 t4 d0 d1 d2 d3 d4 q3
              go_wp2_with fail
              go_roundw
              case rel => exact ⟨i + 1, _, by go_num, by omega, HS9, HO9⟩
              case measure => simp [intOf]; omega
          · obtain rfl : i = x := by omega
            obtain ⟨t0, t1, t2, t3, t4⟩ := row5 hST.out.2.2.2.2.2
            have f0 := hST.out.2.2.2.2.1.frozen 0
            have f1 := hST.out.2.2.2.2.1.frozen 1
            have f2 := hST.out.2.2.2.2.1.frozen 2
            have f3 := hST.out.2.2.2.2.1.frozen 3
            have f4 := hST.out.2.2.2.2.1.frozen 4
            obtain ⟨r0, r1, r2, r3, r4⟩ := row5 hST.out.2.2.2.2.1
            have HD := hide (show DZ b0 wr m u L by have := hO.out.dz (Nat.le_refl _); rw [← HLL.out, List.take_length] at this; exact this)
            clear hO
            obtain ⟨uA, uc, hu, _⟩ := HD.out
            subst hu
            go_wp2_with fail
            refine bodyPost_ret (results_dat rfl _ _ g4 _ _ _ _ _ rfl (row_set5 hST.out.2.2.2.2.1 _ _ _ _ _)) rfl ?_
            exact clean_fin hST.out HD.out (MZ.nil _ _ _) HE2.out _ _ _ _ _
      by_cases k6 : k = 6
      · subst k6
        have HE2 := hide (show r = mkD 6 0 ⟨#[]⟩ [] (sortK Prod.fst (ys.map fun x => (x.1, cleanF m (lv + 1) x.2))) by rw [HE.out]; rfl)
        obtain ⟨L, hL⟩ : ∃ L, L = ys.map fun x => (x.1, cleanF m (lv + 1) x.2) := ⟨_, rfl⟩
        rw [← hL] at HE2
        have HLL := Lib.hid (show L.length = y by rw [hL, List.length_map, HY.out])
        have HL := Lib.hid hL
        have HO := hide (show OwnM (PZ b0 (Value.slice none 0 0).ownBlock w3 m) w3 b0 (.slice none 0 0) (L.take 0) from ⟨[], World.ownsRow_nil _ _ _ _, rfl⟩)
        clear HE hL
        go_wp2_with fail
        go_loopw [9, 53] (fun _ iv wr => ∃ (i : Nat) (u : Value), iv = .int .i64 i ∧ i ≤ y ∧ Hid (CSt w g g4 g5 b0 [.int .i64 6, .int .i64 n, .string s, .slice A x c, .slice A' y c'] [.int .i64 0, .int .i64 0, .string ⟨#[]⟩, .slice none 0 0, .slice none 0 0] [.int .i64 6, .int .i64 0, .string ⟨#[]⟩, .slice none 0 0, u] wr) ∧ Hid (OwnM (PZ b0 u.ownBlock wr m) wr b0 u (L.take i))) (fun _ iv _ => y - (intOf iv).toNat)
        case atStart => exact ⟨0, _, rfl, Nat.zero_le _, HST, HO⟩
        case round =>
          clear HO HST s0 s1 s2 s3 s4 t0 t1 t2 t3 t4 f0 f1 f2 f3 f4 q1 q2 q3 q4 r0 r1 r2 r3 r4
          obtain ⟨i, u, rfl, hi, hST, hO⟩ := hrel
          by_cases hlt : i < y
          · have hlt' : i < ys.length := by rw [← HY.out]; exact hlt
            obtain ⟨ad, rfl, hb, hlab, a, q, a', q', hfive, hpts⟩ := HM.out i _ (List.getElem?_eq_getElem hlt')
            obtain ⟨X, hX⟩ : ∃ X, X = ys[i] := ⟨_, rfl⟩
            have hmem : X.2 ∈ xs ++ ys.map Prod.snd := List.mem_append.2 (.inr (List.mem_map.2 ⟨X, hX ▸ List.getElem_mem hlt', rfl⟩))
            rw [← hX] at hlab hfive hpts
            have hbb : (ad.add (i * 6)).block < w.heap.size := by rw [block_of_add]; exact hb
            obtain ⟨s0, s1, s2, s3, s4, s5⟩ := six_of ((hST.out.2.2.1.cell (p := ad.add (i * 6)) hbb).trans hlab) (hfive.same (p := ⟨_, _, none⟩) hbb (Same.of_below hST.out.2.2.1))
            have HXX := Lib.hid (show L.take (i + 1) = L.take i ++ [(X.1, cleanF m (lv + 1) X.2)] by
              have h1 : i < L.length := by rw [HLL.out]; exact hlt
              rw [List.take_add_one, List.getElem?_eq_getElem h1]
              have : L[i] = (X.1, cleanF m (lv + 1) X.2) := by
                have := HL.out; subst this; rw [List.getElem_map, hX]
              rw [this]; rfl)
            have HLT := Lib.hid (show (L.take i).length = i by rw [List.length_take, HLL.out]; omega)
            have HCK2 := hide fun W (hB : Below w.heap.size w W) => HCK.out W X.2 a q a' q' hmem hpts hB hlv3
            unfold CleanPost datV datCs at HCK2
            obtain ⟨Y, hY⟩ : ∃ Y, Y = cleanF m (lv + 1) X.2 := ⟨_, rfl⟩
            rw [← hY] at HCK2 HXX
            clear hY
            clear hfive hpts hX hlt' hb hbb hmem hlab
            obtain ⟨zs, ho, hf⟩ := hO.out
            rw [HLT.out] at ho
            have HOW := hide ho; have HFL := hide hf
            clear ho hf hO
            go_upto_region 20 with fail
            obtain ⟨wa, b, e1, e2, hBa, hRa⟩ := boxM wr X a q a' q'
            rw [e1, e2]
            have HSA := hide (hST.out.below hBa)
            have HBA := hide hBa
            have hbg : b ≠ g5 := by have := hST.out.1; have := hST.out.2.1; omega
            obtain ⟨t0, t1, t2, t3, t4⟩ := row5 HSA.out.2.2.2.2.2
            have q4 := HSA.out.2.2.2.2.2.frozen 4
            obtain ⟨d0, d1, d2, d3, d4, d5⟩ := row6 hRa
            have HS := hide fun W (h : Below wa.heap.size wa W) => (row6 (hRa.below h)).1
            have hb0a : b0 ≤ wa.heap.size := HSA.out.2.1
            have HSB := hide hST.out.2.1
            have HG5 := hide (show g5 < b0 by have := hST.out.1; omega)
            have HOA := hide (show wa.ownsRow b0 50 6 u i zs from own_below HOW.out hBa)
            have HWB := hide fun W (h : Below wa.heap.size wa W) => (hST.out.2.2.1.trans ((hBa.trans (h.mono hBa.size)).mono hST.out.2.2.1.size))
            clear e1 e2 hBa hRa s0 s1 s2 s3 s4 s5 hST
            go_region_law (first
                | (go_simp; go_at_call 29; refine (HCK2.out _ (HWB.out _ (Below.refl _ _).drew)).mono ?_; rintro e w4 ⟨ra, rc, ra', rc', rfl, hB4, hP4⟩; have hB5 := (Below.refl wa.heap.size wa).drew.trans hB4; have hzA : w4.cell? ⟨g5, 4, none⟩ = some u := (HSA.out.below hB5).2.2.2.2.2.cell 4; have hzB : ∀ o, (w4.alloc o).cell? ⟨g5, 4, none⟩ = some u := fun o => (HSA.out.below (below_al hB5 o)).2.2.2.2.2.cell 4; have hzC := hB5.size; have hzD := HS.out _ hB5)
                | (refine step_append_lies _ rfl (.tmp 58) (.tmp 67) _ rfl b0 50 i1 _ 6 96 Tryd.underlying25 hi1 hy0 hy1 hy2 rfl (by omega) u i zs rfl ((own_below HOA.out hB5).alloc _) ⟨w4.heap.size, 0, none⟩ 1 1 (.string X.1 :: datCs Y ra rc ra' rc') rfl rfl (World.news_of_block (heap_alloc_new _ _)) memCs_one (by omega) (by unfold maxLen; omega) (by omega) (by simp; omega) _ rfl ?_; intro gn cap w5 o1 o2 o3 o4; have hS5 := (HSA.out.below (below_al hB5 (.cells (.string X.1 :: datCs Y ra rc ra' rc').toArray 50))).grown o2 (fun k e => (HOA.out.lt k e).1); have z3 : w5.cell? ⟨g5, 4, none⟩ = some u := hS5.2.2.2.2.2.cell 4; have zf := hS5.2.2.2.2.2.frozen 4))
            all_goals
              have HS9 := hide (hS5.set 4 (.slice (some ⟨gn, 0, none⟩) (i + 1) cap))
              have HO9 := hide (own_pushM (r := (X.1, Y)) (i := 4) (u' := .slice (some ⟨gn, 0, none⟩) (i + 1) cap) HOW.out HFL.out HLT.out HG5.out HSB.out HBA.out.size (below_al (HBA.out.trans (hB5.mono HBA.out.size)) _) hP4 (below_al (Below.refl _ _) _) o1 o2 o3)
              rw [← HXX.out] at HO9
              clear o1 o2 o3 o4 hB5 hB4 hP4 hzA hzB hzC hzD hS5 z3 zf HS HBA HSA HOA HOW HFL HWB HCK2 HXX t0 t1 t2 t3 t4 d0 d1 d2 d3 d4 d5 q4
              go_wp2_with fail
              go_roundw
              case rel => exact ⟨i + 1, _, by go_num, by omega, HS9, HO9⟩
              case measure => simp [intOf]; omega
          · obtain rfl : i = y := by omega
            obtain ⟨t0, t1, t2, t3, t4⟩ := row5 hST.out.2.2.2.2.2
            have hcs := hO.out
            rw [show L.take i = L by rw [← HLL.out, List.take_length]] at hcs
            have HCS := hide (clean_sort hcs (by rw [HLL.out]; omega))
            clear hO hcs
            go_wp2_with fail
            refine HCS.out.mono ?_; rintro e w4 ⟨rfl, row, hG, hrow, hMZ⟩
            have HS4 := hide (hST.out.grown hG hrow)
            have HMZ := hide hMZ
            clear hG hrow hMZ HCS hST t0 t1 t2 t3 t4
            obtain ⟨t0, t1, t2, t3, t4⟩ := row5 HS4.out.2.2.2.2.2
            have f0 := HS4.out.2.2.2.2.1.frozen 0
            have f1 := HS4.out.2.2.2.2.1.frozen 1
            have f2 := HS4.out.2.2.2.2.1.frozen 2
            have f3 := HS4.out.2.2.2.2.1.frozen 3
            have f4 := HS4.out.2.2.2.2.1.frozen 4
            obtain ⟨r0, r1, r2, r3, r4⟩ := row5 HS4.out.2.2.2.2.1
            obtain ⟨uA, uc, hu, _⟩ := HMZ.out
            subst hu
            go_wp2_with fail
            refine bodyPost_ret (results_dat rfl _ _ g4 _ _ _ _ _ rfl (row_set5 HS4.out.2.2.2.2.1 _ _ _ _ _)) rfl ?_
            exact clean_fin HS4.out (DZ.nil _ _ _) HMZ.out HE2.out _ _ _ _ _
      · have d2 : (k == 2) = false := by simpa using k2
        have d3 : (k == 3) = false := by simpa using k3
        have d4 : (k == 4) = false := by simpa using k4
        have d5 : (k == 5) = false := by simpa using k5
        have d6 : (k == 6) = false := by simpa using k6
        have HE2 := hide (show r = mkD k 0 ⟨#[]⟩ [] [] by rw [HE.out, if_neg (by omega), if_neg k4, if_neg k5, if_neg k6])
        clear HE k2 k3 k4 k5 k6
        go_wp2_with fail
        refine bodyPost_ret (results_dat rfl _ _ g4 _ _ _ _ _ rfl (row_set5 HST.out.2.2.2.2.1 _ _ _ _ _)) rfl ?_
        exact clean_fin HST.out (DZ.nil _ _ _) (MZ.nil _ _ _) HE2.out _ _ _ _ _
end Go.Proofs.YtmmbbndoimleaaaDoor

/- Make. -/
namespace Go.Proofs.YtmmbbndoimleaaaDoor
open Go.RowKit

theorem fitC_of_parts {w : World} {B : Nat} : ∀ (m : Nat) {d : Dt} {A c A' c'} (r : Nat), Parts w B m d A c A' c' → partsF m d ≤ 40 → FitC r d
  | _, _, _, _, _, _, 0, _, _ => trivial
  | 0, _, _, _, _, _, _ + 1, h, _ => h.elim
  | m + 1, d, A, c, A', c', r + 1, h, hle => by
    refine ⟨by have h2 := kids_le h; unfold kids at h2; rw [List.length_append, List.length_map] at h2; omega, fun x hx => ?_⟩
    obtain ⟨a, q, a', q', hp⟩ := parts_kid h hx
    exact fitC_of_parts m r hp (by have := parts_kid_le (m := m) hx; omega)
theorem fitD_of_fitC : ∀ (r : Nat) {d : Dt}, FitC r d → FitD r d
  | 0, _, _ => trivial
  | r + 1, d, h => ⟨by have h2 := h.1; unfold kids; rw [List.length_append, List.length_map]; omega, fun x hx => fitD_of_fitC r (h.2 x hx)⟩
theorem fitC_zero (r : Nat) : FitC r zeroD := by
  cases r with
  | zero => trivial
  | succ r => exact ⟨by simp [zeroD], fun x hx => by simp [kids, zeroD] at hx⟩
theorem kids_mk (k n : Int) (s : ByteArray) (l : List Dt) (ms : List (ByteArray × Dt)) : kids (mkD k n s l ms) = l ++ ms.map Prod.snd := by unfold kids; rw [iD_mk, mD_mk]
/-- A kid of the cleaned data is a cleaned kid. -/
theorem clean_kid {m : Nat} {lv : Int} {d x : Dt} (h : x ∈ kids (cleanF (m + 1) lv d)) : ∃ y ∈ kids d, x = cleanF m (lv + 1) y := by
  unfold cleanF at h
  split at h
  · rw [kids_mk] at h; simp at h
  · rw [kids_mk] at h
    rcases List.mem_append.1 h with h | h
    · split at h
      · obtain ⟨y, hy, rfl⟩ := List.mem_map.1 h; exact ⟨y, is_kid hy, rfl⟩
      · cases h
    · obtain ⟨z, hz, rfl⟩ := List.mem_map.1 h
      split at hz
      · have := (sortK_ok (k := Prod.fst) _).2.mem hz
        obtain ⟨y, hy, rfl⟩ := List.mem_map.1 this
        exact ⟨y.2, ms_kid hy, rfl⟩
      · cases hz
theorem clean_kids_length (m : Nat) (lv : Int) (d : Dt) : (iD (cleanF (m + 1) lv d)).length ≤ (iD d).length ∧ (mD (cleanF (m + 1) lv d)).length ≤ (mD d).length := by
  unfold cleanF
  split
  · rw [iD_mk, mD_mk]; simp
  · rw [iD_mk, mD_mk]
    constructor
    · split <;> simp
    · split
      · rw [sortK_length, List.length_map]; exact Nat.le_refl _
      · simp
theorem fitC_clean : ∀ (r m : Nat) (lv : Int) {d : Dt}, FitC r d → FitC r (cleanF m lv d)
  | 0, _, _, _, _ => trivial
  | r + 1, 0, _, _, _ => fitC_zero (r + 1)
  | r + 1, m + 1, lv, d, h => ⟨⟨Nat.le_trans (clean_kids_length m lv d).1 h.1.1, Nat.le_trans (clean_kids_length m lv d).2 h.1.2⟩, fun x hx => by
    obtain ⟨y, hy, rfl⟩ := clean_kid hx
    exact fitC_clean r m (lv + 1) (h.2 y hy)⟩

theorem set5_size (w : World) (g : Nat) (a b c d e : Value) : (set5 w g a b c d e).heap.size = w.heap.size := by unfold set5; simp only [csize_set]
theorem set5_heap (w : World) (g : Nat) (a b c d e : Value) {k : Nat} (hk : k ≠ g) : (set5 w g a b c d e).heap[k]? = w.heap[k]? := by
  unfold set5
  rw [Below.heap_setCell _ _ _ _ hk, Below.heap_setCell _ _ _ _ hk, Below.heap_setCell _ _ _ _ hk, Below.heap_setCell _ _ _ _ hk, Below.heap_setCell _ _ _ _ hk]
/-- Fresh data stands behind stores to an elder block. -/
theorem pz_set5 {lo m : Nat} {w W : World} {r : Dt} {a c a' c'} (h : PZ lo none w m r a c a' c') (hb : Below w.heap.size w W) {g : Nat} (hg : g < lo) (x0 x1 x2 x3 x4 : Value) : Parts (set5 W g x0 x1 x2 x3 x4) (set5 W g x0 x1 x2 x3 x4).heap.size m r a c a' c' :=
  h _ (by rw [set5_size]; exact hb.size) fun k k1 k2 _ => by rw [set5_heap _ _ _ _ _ _ _ (by omega)]; exact hb.block k k2
def MakePost (w : World) (m : Nat) (r : Dt) (e : Ending) (w' : World) : Prop :=
  ∃ X a q a' q', e = .returned (.tuple #[datV X a q a' q', .int .i64 (checkD r)]) ∧ X = (if checkD r = 0 then r else zeroD) ∧ Parts w' w'.heap.size m X a q a' q' ∧ Below w.heap.size w w'

/-- Fresh data stands behind stores to an elder block, and is fresh still. -/
theorem pz_set5Z {lo lo' m : Nat} {w W : World} {r : Dt} {a c a' c'} (h : PZ lo none w m r a c a' c') (hb : Below w.heap.size w W) {g : Nat} (hg : g < lo) (hl : lo' ≤ lo) (x0 x1 x2 x3 x4 : Value) : PZ lo' none (set5 W g x0 x1 x2 x3 x4) m r a c a' c' :=
  h.turn (by rw [set5_size]; exact hb.size) fun k k1 k2 _ => ⟨by rw [set5_heap _ _ _ _ _ _ _ (by omega)]; exact hb.block k k2, by omega, by simp⟩
def MakePostZ (w : World) (m : Nat) (r : Dt) (e : Ending) (w' : World) : Prop :=
  ∃ X a q a' q', e = .returned (.tuple #[datV X a q a' q', .int .i64 (checkD r)]) ∧ X = (if checkD r = 0 then r else zeroD) ∧ PZ w.heap.size none w' m X a q a' q' ∧ Below w.heap.size w w'

set_option maxRecDepth 20000 in
set_option maxHeartbeats 1000000 in
theorem Make_runZ (m : Nat) (d : Dt) (A : Option Addr) (c : Nat) (A' : Option Addr) (c' : Nat) (w : World) (hp : Parts w w.heap.size m d A c A' c') (hf : ∀ r, FitC r d) :
    Calls Tryd.prog 17 #[datV d A c A' c'] w (MakePostZ w m (cleanF m 1 d)) := by
  have HCL := hide fun w' (hB : Below w.heap.size w w') => clean_run m d A c A' c' 1 w' (hp.turn (Same.of_below hB) hB.size) (hf m) (by omega) (by omega)
  obtain ⟨m', rfl⟩ : ∃ m', m = m' + 1 := by
    cases m with
    | zero => exact hp.elim
    | succ m => exact ⟨m, rfl⟩
  obtain ⟨r, hr⟩ : ∃ r, r = cleanF (m' + 1) 1 d := ⟨_, rfl⟩
  have hfr : FitD 16 r := by rw [hr]; exact fitD_of_fitC 16 (fitC_clean 16 (m' + 1) 1 (hf 16))
  rw [← hr] at HCL ⊢
  have HCK := hide fun a q a' q' W (hP : Parts W W.heap.size (m' + 1) r a q a' q') => Check_run (m' + 1) r a q a' q' W hP hfr
  obtain ⟨z, hz⟩ : ∃ z, z = checkD r := ⟨_, rfl⟩
  rw [← hz] at HCK
  have HZ := Lib.hid hz
  unfold CleanPost datV datCs at HCL
  unfold datV datCs at HCK
  unfold datV datCs
  obtain ⟨k, hk⟩ : ∃ k, k = kD d := ⟨_, rfl⟩
  obtain ⟨n, hn⟩ : ∃ k, k = nD d := ⟨_, rfl⟩
  obtain ⟨s, hs⟩ : ∃ k, k = sD d := ⟨_, rfl⟩
  obtain ⟨x, hx⟩ : ∃ k, k = (iD d).length := ⟨_, rfl⟩
  obtain ⟨y, hy⟩ : ∃ k, k = (mD d).length := ⟨_, rfl⟩
  rw [← hk, ← hn, ← hs, ← hx, ← hy] at HCL ⊢
  clear hp hf hk hn hs hx hy hr hfr hz
  go_enter Tryd.func17, Tryd.ntmps17
  go_upto_region 1 with fail
  obtain ⟨w1, g, e1, e2, hB1, _, _, _, _, _, hR1⟩ := boxD w k n s (.slice A x c) (.slice A' y c')
  obtain ⟨w2, g2, e3, e4, hB2, _, _, _, _, _, hR2⟩ := boxD w1 0 0 ⟨#[]⟩ (.slice none 0 0) (.slice none 0 0)
  have e5 : g + 1 = g2 := by rw [← e4, ← e1, ← e2]; simp
  rw [e1, e2, e3, e5]
  have HB2 := hide (hB1.trans (hB2.mono hB1.size))
  have HG2 := hide (show w.heap.size ≤ g2 by omega)
  have HG3 := hide (show g2 < w2.heap.size from hR2.lt)
  obtain ⟨s0, s1, s2, s3, s4⟩ := row5 (hR1.below hB2)
  have HR2 := hide hR2
  clear e1 e2 e3 e4 e5 hB1 hB2 hR1 hR2
  go_wp2_with (refine (HCL.out _ HB2.out).mono ?_; rintro e w3 ⟨ra, rc, ra', rc', rfl, hB3, hP3⟩; have HB3 := hide hB3; have HPZ := hide hP3; clear hB3 hP3)
  obtain ⟨w4, g4, e1, e2, hB4, _, _, _, _, _, hR4⟩ := boxD w3 (kD r) (nD r) (sD r) (.slice ra (iD r).length rc) (.slice ra' (mD r).length rc')
  rw [e1, e2]
  have HB4 := hide (HB3.out.trans (hB4.mono HB3.out.size))
  have HP4 := hide (HPZ.out.parts.turn (Same.of_below hB4) hB4.size)
  have HW4 := hide hB4
  have HR4 := hide hR4
  clear e1 e2 hB4 hR4 HB3 s0 s1 s2 s3 s4 HCL
  refine (HCK.out ra rc ra' rc' _ HP4.out).mono ?_; rintro e w5 ⟨rfl, hB5⟩
  have HB5 := hide (HB4.out.trans (hB5.mono HB4.out.size))
  have HW5 := hide (HW4.out.trans (hB5.mono HW4.out.size))
  have HBL := hide (HB2.out.trans (HB5.out.mono HB2.out.size))
  have HR := hide (HR2.out.below HB5.out)
  obtain ⟨s0, s1, s2, s3, s4⟩ := row5 (HR4.out.below hB5)
  obtain ⟨r0, r1, r2, r3, r4⟩ := row5 HR.out
  have f0 := HR.out.frozen 0
  have f1 := HR.out.frozen 1
  have f2 := HR.out.frozen 2
  have f3 := HR.out.frozen 3
  have f4 := HR.out.frozen 4
  clear hB5 HP4 HB4 HR4 HR2 HCK
  by_cases hz : z = 0
  · subst hz
    have HZ2 := hide (show r = if checkD r = 0 then r else zeroD by rw [if_pos HZ.out.symm])
    go_wp2_with fail
    refine bodyPost_ret (results_dat2 rfl _ _ g2 _ _ _ _ _ rfl (row_set5 HR.out _ _ _ _ _)) rfl ?_
    exact ⟨r, ra, rc, ra', rc', by rw [← HZ.out]; rfl, HZ2.out, pz_set5Z HPZ.out HW5.out HG3.out HB2.out.size _ _ _ _ _, below_set5 HBL.out HG2.out _ _ _ _ _⟩
  · have g0 : (z != 0) = true := by simpa using hz
    have HZ2 := hide (show zeroD = if checkD r = 0 then r else zeroD by rw [if_neg (by rw [← HZ.out]; exact hz)])
    go_wp2_with fail
    refine bodyPost_ret (results_dat2 rfl _ _ g2 _ _ _ _ _ rfl (row_set5 HR.out _ _ _ _ _)) rfl ?_
    exact ⟨zeroD, none, 0, none, 0, by rw [← HZ.out]; rfl, HZ2.out, fun _ _ _ => zero_parts _ _ _, below_set5 HBL.out HG2.out _ _ _ _ _⟩
theorem Make_run (m : Nat) (d : Dt) (A : Option Addr) (c : Nat) (A' : Option Addr) (c' : Nat) (w : World) (hp : Parts w w.heap.size m d A c A' c') (hf : ∀ r, FitC r d) :
    Calls Tryd.prog 17 #[datV d A c A' c'] w (MakePost w m (cleanF m 1 d)) :=
  (Make_runZ m d A c A' c' w hp hf).mono fun _ _ ⟨X, a, q, a', q', h1, h2, h3, h4⟩ => ⟨X, a, q, a', q', h1, h2, h3.parts, h4⟩
end Go.Proofs.YtmmbbndoimleaaaDoor
