/- text of package jsontext's layout, indent true; laid, Text, Indent of package jsontext; The chapter's sample and example; value of the reference's reader. -/
import Derived.Test.YtmmbbndoimleaaaGreatDoorHAO
import Derived.Test.YtmmbbndoimleaaaGreatDoorHAH
import Derived.Test.YtmmbbndoimleaaaGreatDoorHAI

/- text of package jsontext's layout, indent true. -/
namespace Go.Proofs.YtmmbbndoimleaaaGreatDoor
open Go.RowKit

set_option maxRecDepth 100000 in
set_option maxHeartbeats 4000000 in
theorem jtext_true : ∀ (m r lv : Nat) (d : Dt) (A : Option Addr) (c : Nat) (A' : Option Addr) (c' : Nat) (w : World), lv + r ≤ 16 → checkF r d = 0 → Parts w w.heap.size m d A c A' c' → jbF m d ≤ 1000000000 → Tab w →
    Calls Tryz.prog 31 #[.agg #[.bool true], datV d A c A' c', .int .i64 lv] w fun e w' => e = .returned (.string (jtF true m lv d)) ∧ Below w.heap.size w w' := by
  intro m
  induction m with
  | zero => intro r lv d A c A' c' w _ _ hp _ _; exact hp.elim
  | succ m ih =>
    intro r lv d A c A' c' w hlv hcz hp hbd ht
    have hpt := hp
    obtain ⟨r', rfl, hown, hkz⟩ := valid_kid hcz
    obtain ⟨⟨hk1, hk6⟩, _, _, hiN, hmN, _⟩ := valid_fields hown
    have htb := jparts_le true m lv (by omega) (jtF true m (lv + 1)) d (fun x hx => jtF_le true m r' (lv + 1) x (by omega) (hkz x hx))
    have hsz : (sD d).size ≤ 166700000 := by omega
    obtain ⟨hb1, hb2⟩ := jbF_kids (m := m) (d := d)
    obtain ⟨⟨h1, h2, h3, h4⟩, hI, hM⟩ := hp
    have hm := maxLen_le h2; have hm' := maxLen_le h4
    have hlv16 : lv ≤ 16 := by omega
    have hcast : ((lv + 1 : Nat) : Int) = (lv : Int) + 1 := by omega
    have hwrap : IntKind.i64.wrap ((lv : Int) + 1) = (lv : Int) + 1 := IntWalk.i64_in _ (by omega)
    have HTAB := hide fun W (hB : Below w.heap.size w W) => tab_below ht hB
    obtain ⟨i0, hi0, hz0, hz1, hz2⟩ := info_parts infoS
    obtain ⟨res, hres⟩ : ∃ r, r = jtF true (m + 1) lv d := ⟨_, rfl⟩
    rw [← hres]
    have HLN := hide fun W => line_run true (lv + 1) (by omega) W
    have HLN0 := hide fun W => line_run true lv (by omega) W
    rw [hcast] at HLN
    obtain ⟨wL, hwL⟩ : ∃ W, W = w.alloc (.cells #[.bool true] 42) := ⟨_, rfl⟩
    obtain ⟨gl, hgl⟩ : ∃ g, g = w.heap.size := ⟨_, rfl⟩
    have hRL : Row wL gl 42 [.bool true] := by rw [hwL, hgl]; exact Row.new w _ _
    have hBL0 : Below w.heap.size w wL := by rw [hwL]; exact (Below.refl _ _).alloc (Nat.le_refl _) _
    by_cases k4 : kD d = 4
    · have HZ := hide (show res = jqB (sD d) by rw [hres, jt_str k4])
      have HQ := hide fun W => quoted_run (sD d) hsz W
      unfold datV datCs
      rw [k4]
      obtain ⟨n, hn'⟩ : ∃ k, k = nD d := ⟨_, rfl⟩
      obtain ⟨s, hs⟩ : ∃ k, k = sD d := ⟨_, rfl⟩
      obtain ⟨x, hx⟩ : ∃ k, k = (iD d).length := ⟨_, rfl⟩
      obtain ⟨y, hy⟩ : ∃ k, k = (mD d).length := ⟨_, rfl⟩
      rw [← hn', ← hs, ← hx, ← hy]
      rw [← hs] at HQ HZ
      have HRL := hide hRL; have HB0 := hide hBL0
      clear hn' hs hx hy hI hM hb1 hb2 htb hbd ht hpt hiN hmN hkz hown hcz hres h1 h2 h3 h4 hRL hBL0 k4 hk1 hk6 ih HLN HLN0 HTAB hz0 hz1 hz2 hsz hm hm'
      go_enter Tryz.func31, Tryz.ntmps31
      go_upto_region 1 with fail
      rw [← hwL]
      obtain ⟨w1, g, e1, e2, hBL, c0, c1, c2, c3, c4, hROW⟩ := boxD wL 4 n s (.slice A x c) (.slice A' y c')
      rw [e1, show w.heap.size + 1 = g by rw [← e2, hwL]; simp, ← hgl]
      have q0 : w1.cell? ⟨gl, 0, none⟩ = some (.bool true) := (HRL.out.below hBL).cell 0
      have HBL := hide (HB0.out.trans (hBL.mono HB0.out.size))
      clear e1 e2 hwL hgl hBL hROW HRL HB0
      go_wp2_with fail
      refine (HQ.out _).mono ?_; rintro e w4 ⟨rfl, hB4⟩
      have HB4 := hide (HBL.out.trans (hB4.mono HBL.out.size))
      clear hB4
      go_wp2_with fail
      go_ret
      exact ⟨ret_str HZ.out.symm, HB4.out⟩
    by_cases k123 : kD d = 1 ∨ kD d = 2 ∨ kD d = 3
    · have HZ := hide (show res = textD (m + 1) d by rw [hres, jt_leaf k123])
      have hi0 : iD d = [] := by rcases hiN with h | h; omega; exact h
      have hm0 : mD d = [] := by rcases hmN with h | h; omega; exact h
      have htb2 : tbF (m + 1) d ≤ 1000000000 := by omega
      have HQ := hide fun W (hB : Below w.heap.size w W) => Text_run (m + 1) d A c A' c' W (hpt.turn (Same.of_below hB) hB.size) (leaf_fit hi0 hm0) htb2 (tab_below ht hB)
      unfold datV datCs at HQ
      unfold datV datCs
      obtain ⟨k, hk⟩ : ∃ k, k = kD d := ⟨_, rfl⟩
      obtain ⟨n, hn'⟩ : ∃ k, k = nD d := ⟨_, rfl⟩
      obtain ⟨s, hs⟩ : ∃ k, k = sD d := ⟨_, rfl⟩
      obtain ⟨x, hx⟩ : ∃ k, k = (iD d).length := ⟨_, rfl⟩
      obtain ⟨y, hy⟩ : ∃ k, k = (mD d).length := ⟨_, rfl⟩
      rw [← hk, ← hn', ← hs, ← hx, ← hy] at HQ
      rw [← hk, ← hn', ← hs, ← hx, ← hy]
      obtain ⟨T, hT⟩ : ∃ T, T = textD (m + 1) d := ⟨_, rfl⟩
      obtain ⟨z, hz⟩ : ∃ T, T = checkD d := ⟨_, rfl⟩
      rw [← hT, ← hz] at HQ
      rw [← hT] at HZ
      rw [← hk] at k123
      have HRL := hide hRL; have HB0 := hide hBL0
      clear hk hn' hs hx hy hT hz hI hM hb1 hb2 htb htb2 hbd ht hpt hiN hmN hi0 hm0 hkz hown hcz hres h1 h2 h3 h4 hRL hBL0 k4 hk1 hk6 ih HLN HLN0 HTAB hz0 hz1 hz2 hsz hm hm'
      rcases k123 with rfl | rfl | rfl
      all_goals
        go_enter Tryz.func31, Tryz.ntmps31
        go_upto_region 1 with fail
        rw [← hwL]
        obtain ⟨w1, g, e1, e2, hBL, c0, c1, c2, c3, c4, hROW⟩ := boxD wL _ n s (.slice A x c) (.slice A' y c')
        rw [e1, show w.heap.size + 1 = g by rw [← e2, hwL]; simp, ← hgl]
        have q0 : w1.cell? ⟨gl, 0, none⟩ = some (.bool true) := (HRL.out.below hBL).cell 0
        have HBL := hide (HB0.out.trans (hBL.mono HB0.out.size))
        clear e1 e2 hwL hgl hBL hROW HRL HB0
        go_wp2_with fail
        refine (HQ.out _ HBL.out).mono ?_; rintro e w4 ⟨rfl, hB4⟩
        have HB4 := hide (HBL.out.trans (hB4.mono HBL.out.size))
        clear hB4
        go_wp2_with fail
        go_ret
        exact ⟨ret_str HZ.out.symm, HB4.out⟩
    have HRL := hide hRL; have HB0 := hide hBL0
    have HWR := hide (hres.trans (jt_wrap (by omega)))
    by_cases k5 : kD d = 5
    · have hm0 : mD d = [] := by rcases hmN with h | h; omega; exact h
      have hi2 : (iD d).length ≤ 1000000000 := by
        have := sumN_len (fun x => 100 + jbF m x) (fun x => by omega) (iD d)
        rw [jbF] at hbd; omega
      have HI := hide fun i x (h : (iD d)[i]? = some x) => And.intro (hI i x h) (And.intro (show jbF m x ≤ 1000000000 by have := hb1 x (List.mem_of_getElem? h); omega) (And.intro (hkz x (is_kid (List.mem_of_getElem? h))) (jtF_le true m r' (lv + 1) x (by omega) (hkz x (is_kid (List.mem_of_getElem? h))))))
      obtain ⟨L, hL⟩ : ∃ L, L = jparts true lv (jtF true m (lv + 1)) d := ⟨_, rfl⟩
      rw [← hL] at HWR htb
      rw [list_one hm0] at hL
      have HSUM := hide (show sumN (fun x : ByteArray => x.size + 1) L ≤ 1000000000 by have := sum_one (l := L); omega)
      rw [k5] at HWR
      obtain ⟨xs, hxs⟩ : ∃ k, k = iD d := ⟨_, rfl⟩
      unfold datV datCs
      rw [k5, hm0]
      rw [← hxs] at HI h1 hi2 hL
      obtain ⟨n, hn'⟩ : ∃ k, k = nD d := ⟨_, rfl⟩
      obtain ⟨s, hs⟩ : ∃ k, k = sD d := ⟨_, rfl⟩
      obtain ⟨x, hx⟩ : ∃ k, k = xs.length := ⟨_, rfl⟩
      rw [← hn', ← hs, ← hxs, ← hx]
      rw [← hx] at h1 hi2
      rw [show ((([] : List (ByteArray × Dt)).length : Nat)) = 0 from rfl]
      have HLL := hide (show L.length = x by rw [hL, List.length_map, hx])
      have HLA := hide (show ∀ i X, xs[i]? = some X → L[i]? = some (jpartI true lv (jtF true m (lv + 1)) X) from fun i X h => by rw [hL, List.getElem?_map, h]; rfl)
      have HX := Lib.hid hx
      clear hn' hs hx hxs hL hI hM hb1 hb2 htb hbd ht hpt hiN hmN hm0 hkz hown hcz hres h2 h3 h4 hRL hBL0 k4 k123 k5 hk1 hk6 hsz hm'
      go_enter Tryz.func31, Tryz.ntmps31
      go_upto_region 1 with fail
      rw [← hwL]
      obtain ⟨w1, g, e1, e2, hBL, c0, c1, c2, c3, c4, hROW⟩ := boxD wL 5 n s (.slice A x c) (.slice A' 0 c')
      rw [e1, show w.heap.size + 1 = g by rw [← e2, hwL]; simp, ← hgl]
      have HC := hide fun W (h : Below w1.heap.size w1 W) => (And.intro ((HRL.out.below (hBL.trans (h.mono hBL.size))).cell 0) (row5 (hROW.below h)) : W.cell? ⟨gl, 0, none⟩ = some (.bool true) ∧ _)
      have q0 : w1.cell? ⟨gl, 0, none⟩ = some (.bool true) := (HRL.out.below hBL).cell 0
      have HBL := hide (HB0.out.trans (hBL.mono HB0.out.size))
      have hgl1 : gl < w1.heap.size := (HRL.out.below hBL).lt
      have hg1 : g < w1.heap.size := hROW.lt
      clear e1 e2 hwL hgl hBL hROW HRL HB0
      go_wp2_with fail
      go_loopw [9, 14, 41] (fun ov _ iv wr => ∃ i : Nat, iv = .int .i64 i ∧ i ≤ x ∧ Hid (Below w1.heap.size w1 wr) ∧ Hid (wr.ownsRow w1.heap.size 9 1 ov i (strsV (L.take i)))) (fun _ _ iv _ => x - (intOf iv).toNat)
      case atStart => exact ⟨0, rfl, Nat.zero_le _, hide (Below.refl _ _), hide (World.ownsRow_nil _ _ _ _)⟩
      case round =>
        obtain ⟨i, rfl, hi, hB, hO⟩ := hrel
        have hwB := HBL.out.trans (hB.out.mono HBL.out.size)
        by_cases hlt : i < x
        · have hlt' : i < xs.length := by rw [← HX.out]; exact hlt
          obtain ⟨⟨ad, rfl, hb, a, q, a', q', hfive, hpts⟩, htx, hcx, htl⟩ := HI.out i _ (List.getElem?_eq_getElem hlt')
          obtain ⟨X, hX⟩ : ∃ X, X = xs[i] := ⟨_, rfl⟩
          rw [← hX] at hfive hpts htx hcx htl
          have hbb : (ad.add (i * 5)).block < w.heap.size := by rw [block_of_add]; exact hb
          obtain ⟨s0, s1, s2, s3, s4⟩ := hfive.same hbb (Same.of_below hwB)
          have HCK := hide fun w' (hB' : Below w.heap.size w w') => ih r' (lv + 1) X a q a' q' w' (by omega) hcx (hpts.turn (Same.of_below hB') hB'.size) htx (HTAB.out _ hB')
          have HXX := hide (show strsV (L.take (i + 1)) = strsV (L.take i) ++ [.string (jpartI true lv (jtF true m (lv + 1)) X)] by
            rw [List.take_add_one, HLA.out i _ (List.getElem?_eq_getElem hlt'), strsV_append, hX]; rfl)
          unfold jpartI at HXX
          unfold datV datCs at HCK
          obtain ⟨T, hT⟩ : ∃ T, T = jtF true m (lv + 1) X := ⟨_, rfl⟩
          obtain ⟨LB, hLB⟩ : ∃ T, T = lineB true (lv + 1) := ⟨_, rfl⟩
          have hls : LB.size ≤ 100 := by rw [hLB]; have := lineB_size true (lv + 1); omega
          rw [← hT] at HCK HXX htl
          rw [← hLB] at HXX
          have HLN1 := hide fun W => (HLN.out W)
          rw [← hLB] at HLN1
          rw [hcast] at HCK
          have hov : ¬ 9223372036854775807 < LB.size + T.size := by omega
          obtain ⟨c0, c1, c2, c3, c4, c5⟩ := HC.out _ hB.out
          clear hfive hpts hX hlt' hb hbb hT hLB htx hcx htl
          go_upto_region 19 with fail
          obtain ⟨wa, hwa⟩ : ∃ wa, wa = wr.alloc (Obj.cells #[Value.int IntKind.i64 (kD X), Value.int IntKind.i64 (nD X), Value.string (sD X), Value.slice a (iD X).length q, Value.slice a' (mD X).length q'] 25) := ⟨_, rfl⟩
          obtain ⟨b, hbb⟩ : ∃ b, b = wr.heap.size := ⟨_, rfl⟩
          have hR : Row wa b 25 [Value.int IntKind.i64 (kD X), Value.int IntKind.i64 (nD X), Value.string (sD X), Value.slice a (iD X).length q, Value.slice a' (mD X).length q'] := by rw [hwa, hbb]; exact Row.new wr _ _
          have HBA := hide (show Below w1.heap.size w1 wa by rw [hwa]; exact below_al hB.out _)
          have HOA := hide (show wa.ownsRow w1.heap.size 9 1 u9 i (strsV (L.take i)) by rw [hwa]; exact hO.out.alloc _)
          have hS0 : w1.heap.size ≤ wa.heap.size := HBA.out.size
          rw [← hwa, ← hbb]
          clear hwa hbb
          obtain ⟨wd, hwd⟩ : ∃ W, W = wa.drew := ⟨_, rfl⟩
          have hBD : Below wa.heap.size wa wd := by rw [hwd]; exact (Below.refl _ _).drew
          have hsd : wd.heap.size = wa.heap.size := by rw [hwd]; rfl
          have hRD := hR.below hBD
          have HBD := hide (HBA.out.trans (hBD.mono hS0))
          have HOD := hide (own_below HOA.out hBD)
          have hbsd := HBD.out.size
          have HS := hide fun W (h : Below wd.heap.size wd W) => (And.intro (HC.out W (HBD.out.trans (h.mono hbsd))).1 (row5 (hRD.below h)) : W.cell? ⟨gl, 0, none⟩ = some (.bool true) ∧ _)
          have HWB := hide fun W (h : Below wd.heap.size wd W) => HBL.out.trans ((HBD.out.trans (h.mono hbsd)).mono HBL.out.size)
          clear hR hRD hBD HBA HOA hS0 hsd s0 s1 s2 s3 s4 hB hO hwB c0 c1 c2 c3 c4 c5
          refine region_two 12 (fun W => W.cell? ⟨gl, 0, none⟩ = some (.bool true) ∧ W.cell? ⟨b, 0, none⟩ = some (.int .i64 (kD X)) ∧ W.cell? ⟨b, 1, none⟩ = some (.int .i64 (nD X)) ∧ W.cell? ⟨b, 2, none⟩ = some (.string (sD X)) ∧
              W.cell? ⟨b, 3, none⟩ = some (.slice a (iD X).length q) ∧ W.cell? ⟨b, 4, none⟩ = some (.slice a' (mD X).length q')) (by kernel_rfl) (by kernel_rfl) (by rw [← hwd]; exact HS.out _ (Below.refl _ _)) (fun hH => ?_)
          rw [← hwd] at hH ⊢
          clear hwd
          simp only [List.take_succ_cons, List.take_zero]
          refine takeH (i := 0) (v := ?_) rfl (by kernel_rfl) (by kernel_rfl) (by kernel_rfl) (fun _ _ _ h => h) (Or.inl ⟨by rfl, ?_⟩) hH ?_
          rotate_left
          · (intro w hSw; (try dsimp only at hSw); go_simp; try with_reducible rfl)
          simp only [Act.put, List.setIfInBounds_toArray, List.set_cons_zero, List.set_cons_succ]
          refine takeH (i := 1) (v := ?_) rfl (by kernel_rfl) (by kernel_rfl) (by kernel_rfl) (fun _ _ _ h => h) (Or.inl ⟨by rfl, ?_⟩) hH ?_
          rotate_left
          · (intro w hSw; (try dsimp only at hSw); go_simp; try with_reducible rfl)
          simp only [Act.put, List.setIfInBounds_toArray, List.set_cons_zero, List.set_cons_succ]
          refine takeH (i := 2) (v := ?_) rfl (by kernel_rfl) (by kernel_rfl) (by kernel_rfl) (fun _ _ _ h => h) (Or.inl ⟨by rfl, ?_⟩) hH ?_
          rotate_left
          · (intro w hSw; (try dsimp only at hSw); go_simp; try with_reducible rfl)
          simp only [Act.put, List.setIfInBounds_toArray, List.set_cons_zero, List.set_cons_succ]
          refine takeH (i := 3) (v := ?_) rfl (by kernel_rfl) (by kernel_rfl) (by kernel_rfl) (fun _ _ _ h => h) (Or.inl ⟨by rfl, ?_⟩) hH ?_
          rotate_left
          · (intro w hSw; (try dsimp only at hSw); go_simp; try with_reducible rfl)
          simp only [Act.put, List.setIfInBounds_toArray, List.set_cons_zero, List.set_cons_succ]
          refine takeH (i := 5) (v := ?_) rfl (by kernel_rfl) (by kernel_rfl) (by kernel_rfl) (fun _ _ _ h => h) (Or.inl ⟨by rfl, ?_⟩) hH ?_
          rotate_left
          · (intro w hSw; (try dsimp only at hSw); go_simp; try with_reducible rfl)
          simp only [Act.put, List.setIfInBounds_toArray, List.set_cons_zero, List.set_cons_succ]
          refine takeH (i := 6) (v := ?_) rfl (by kernel_rfl) (by kernel_rfl) (by kernel_rfl) (fun _ _ _ h => h) (Or.inl ⟨by rfl, ?_⟩) hH ?_
          rotate_left
          · (intro w hSw; (try dsimp only at hSw); go_simp; try with_reducible rfl)
          simp only [Act.put, List.setIfInBounds_toArray, List.set_cons_zero, List.set_cons_succ]
          refine takeH (i := 7) (v := ?_) rfl (by kernel_rfl) (by kernel_rfl) (by kernel_rfl) (fun _ _ _ h => h) (Or.inl ⟨by rfl, ?_⟩) hH ?_
          rotate_left
          · (intro w hSw; (try dsimp only at hSw); go_simp; try with_reducible rfl)
          simp only [Act.put, List.setIfInBounds_toArray, List.set_cons_zero, List.set_cons_succ]
          refine takeH (i := 8) (v := ?_) rfl (by kernel_rfl) (by kernel_rfl) (by kernel_rfl) (fun _ _ _ h => h) (Or.inl ⟨by rfl, ?_⟩) hH ?_
          rotate_left
          · (intro w hSw; (try dsimp only at hSw); go_simp; try with_reducible rfl)
          simp only [Act.put, List.setIfInBounds_toArray, List.set_cons_zero, List.set_cons_succ]
          refine oneH (i := 4) rfl (by kernel_rfl) (fun K hK => ?_)
          go_simp
          go_at_call 60
          refine (HLN1.out _).mono ?_; rintro e w3 ⟨rfl, hB3⟩
          refine hK.out _ _ (HS.out _ hB3) (fun hH => ?_)
          clear hK K
          refine oneH (i := 9) rfl (by kernel_rfl) (fun K hK => ?_)
          go_simp
          go_at_call 31
          refine (HCK.out _ (HWB.out _ hB3)).mono ?_; rintro e w4 ⟨rfl, hB4⟩
          have hB5 := hB3.trans (hB4.mono hB3.size)
          refine hK.out _ _ (HS.out _ hB5) (fun hH => ?_)
          clear hK K
          refine takeH (i := 10) (v := ?_) rfl (by kernel_rfl) (by kernel_rfl) (by kernel_rfl) (fun _ _ _ h => h) (Or.inl ⟨by rfl, ?_⟩) hH ?_
          rotate_left
          · (intro w hSw; (try dsimp only at hSw); go_simp; try with_reducible rfl)
          simp only [Act.put, List.setIfInBounds_toArray, List.set_cons_zero, List.set_cons_succ]
          refine oneH (i := 11) rfl (by kernel_rfl) (fun K hK => ?_)
          go_simp
          refine hK.out _ _ (HS.out _ (below_al hB5 _)) (fun hH => ?_)
          clear hK K
          refine wpAnyH_done (by kernel_rfl) ?_ _
          unfold TailPost
          simp only [List.drop_succ_cons, List.drop_zero]
          have HB4 := hide hB5
          have hs4 := hB5.size
          have HO4 := hide (own_below HOD.out hB5)
          clear hH hB3 hB4 hB5 HCK HLN1 HS HWB
          go_wp2_with (at_builtin; refine wpList_append_all _ rfl (.tmp 45) (.tmp 56) _ rfl w1.heap.size 9 i0 _ 1 16 Tryz.underlying70 hi0 hz0 hz1 hz2 rfl (by omega) u9 i (strsV (L.take i)) rfl (HO4.out.alloc _) (some ⟨w4.heap.size, 0, none⟩) 1 1 [.string (LB ++ T)] rfl (by intro h; cases h) rfl (by intro ad' h; injection h with h; subst h; exact World.news_of_block (heap_alloc_new _ _)) one_str (by unfold maxLen; omega) (by omega) (by simp; omega) ?_)
          intro v' w' o1 o2
          have HB5 := hide (Below.grown (below_al (HBD.out.trans (HB4.out.mono hbsd)) (.cells #[.string (LB ++ T)] 9)) o2.out (by simp; omega) (fun k e => (HO4.out.lt k e).1))
          have HO5 := hide (show w'.ownsRow w1.heap.size 9 1 v' (i + 1) (strsV (L.take (i + 1))) by rw [HXX.out]; exact o1.out)
          clear o1 o2 HO4 HOD HB4 HBD HXX
          go_wp2_with fail
          go_roundw
          case rel => exact ⟨i + 1, by go_num, by omega, HB5, HO5⟩
          case measure => simp [intOf]; omega
        · obtain rfl : x = i := by omega
          obtain ⟨c0, c1, c2, c3, c4, c5⟩ := HC.out _ hB.out
          have HO1 := hide (show wr.ownsRow w1.heap.size 9 1 u9 x (strsV L) by
            have e : L.take x = L := by rw [← HLL.out, List.take_length]
            have := hO.out
            rw [e] at this; exact this)
          have HJ := hide fun W (h : Below wr.heap.size wr W) => joinC_run u9 L w1.heap.size W (by rw [HLL.out]; exact own_below HO1.out h) HSUM.out
          have HB1 := hide hB.out
          obtain ⟨A9, c9, rfl⟩ := own_form HO1.out
          clear hO hB hlt hi HI HX HLA HO1 ih
          go_wp2_with fail
          go_loopw [9, 16, 62] (fun ov _ iv W => ov = .slice A9 x c9 ∧ iv = .int .i64 0 ∧ W = wr) (fun _ _ _ _ => 0)
          case atStart => exact ⟨rfl, rfl, rfl⟩
          case round =>
            obtain ⟨rfl, rfl, e3⟩ := hrel
            subst e3
            by_cases hx0 : x = 0
            · subst hx0
              have HZ := hide (show res = ⟨#[91]⟩ ++ ⟨#[93]⟩ from HWR.out.trans (wrap_nil HLL.out))
              go_wp2_with fail
              go_ret
              exact ⟨ret_str HZ.out.symm, hwB⟩
            · have HZ := hide (show res = ⟨#[91]⟩ ++ joinC L ++ lineB true lv ++ ⟨#[93]⟩ from HWR.out.trans (wrap_cons (by rw [HLL.out]; exact hx0)))
              have hJs := Nat.le_trans (joinC_size L) HSUM.out
              have hLs := lineB_size true lv
              have hg1 : ((x : Int) == 0) = false := by simp; omega
              have HLM := hide fun W => HLN0.out W
              obtain ⟨J, hJ⟩ : ∃ J, J = joinC L := ⟨_, rfl⟩
              obtain ⟨LB, hLB⟩ : ∃ J, J = lineB true lv := ⟨_, rfl⟩
              rw [← hJ] at HJ HZ hJs
              rw [← hLB] at HLM HZ hLs
              have HCW := hide fun W (h : Below wr.heap.size wr W) => (HC.out W (HB1.out.trans (h.mono HB1.out.size))).1
              have ho1 : ¬ 9223372036854775807 < 1 + J.size := by omega
              have ho2 : ¬ 9223372036854775807 < 1 + J.size + LB.size := by omega
              have ho3 : ¬ 9223372036854775807 < 1 + J.size + LB.size + 1 := by omega
              clear hJ hLB HSUM HWR hx0
              go_upto_region 28 with fail
              obtain ⟨wd, hwd⟩ : ∃ W, W = wr.drew := ⟨_, rfl⟩
              have hBD : Below wr.heap.size wr wd := by rw [hwd]; exact (Below.refl _ _).drew
              have HJD := hide fun W (h : Below wd.heap.size wd W) => HJ.out W (hBD.trans (h.mono hBD.size))
              have HCD := hide fun W (h : Below wd.heap.size wd W) => HCW.out W (hBD.trans (h.mono hBD.size))
              have HBD := hide (hwB.trans (hBD.mono hwB.size))
              clear hBD HJ HCW hwB HB1 c0 c1 c2 c3 c4 c5
              refine region_two 9 (fun W => W.cell? ⟨gl, 0, none⟩ = some (.bool true)) (by kernel_rfl) (by kernel_rfl) (by rw [← hwd]; exact HCD.out _ (Below.refl _ _)) (fun hH => ?_)
              rw [← hwd] at hH ⊢
              clear hwd
              simp only [List.take_succ_cons, List.take_zero]
              refine takeH (i := 0) (v := ?_) rfl (by kernel_rfl) (by kernel_rfl) (by kernel_rfl) (fun _ _ _ h => h) (Or.inl ⟨by rfl, ?_⟩) hH ?_
              rotate_left
              · (intro w hSw; (try dsimp only at hSw); go_simp; try with_reducible rfl)
              simp only [Act.put, List.setIfInBounds_toArray, List.set_cons_zero, List.set_cons_succ]
              refine takeH (i := 1) (v := ?_) rfl (by kernel_rfl) (by kernel_rfl) (by kernel_rfl) (fun _ _ _ h => h) (Or.inl ⟨by rfl, ?_⟩) hH ?_
              rotate_left
              · (intro w hSw; (try dsimp only at hSw); go_simp; try with_reducible rfl)
              simp only [Act.put, List.setIfInBounds_toArray, List.set_cons_zero, List.set_cons_succ]
              refine takeH (i := 4) (v := ?_) rfl (by kernel_rfl) (by kernel_rfl) (by kernel_rfl) (fun _ _ _ h => h) (Or.inl ⟨by rfl, ?_⟩) hH ?_
              rotate_left
              · (intro w hSw; (try dsimp only at hSw); go_simp; try with_reducible rfl)
              simp only [Act.put, List.setIfInBounds_toArray, List.set_cons_zero, List.set_cons_succ]
              refine takeH (i := 5) (v := ?_) rfl (by kernel_rfl) (by kernel_rfl) (by kernel_rfl) (fun _ _ _ h => h) (Or.inl ⟨by rfl, ?_⟩) hH ?_
              rotate_left
              · (intro w hSw; (try dsimp only at hSw); go_simp; try with_reducible rfl)
              simp only [Act.put, List.setIfInBounds_toArray, List.set_cons_zero, List.set_cons_succ]
              refine takeH (i := 8) (v := ?_) rfl (by kernel_rfl) (by kernel_rfl) (by kernel_rfl) (fun _ _ _ h => h) (Or.inl ⟨by rfl, ?_⟩) hH ?_
              rotate_left
              · (intro w hSw; (try dsimp only at hSw); go_simp; try with_reducible rfl)
              simp only [Act.put, List.setIfInBounds_toArray, List.set_cons_zero, List.set_cons_succ]
              refine oneH (i := 2) rfl (by kernel_rfl) (fun K hK => ?_)
              go_simp
              go_at_call 61
              refine (HJD.out _ (Below.refl _ _)).mono ?_; rintro e w3 ⟨rfl, hB3⟩
              refine hK.out _ _ (HCD.out _ hB3) (fun hH => ?_)
              clear hK K
              refine takeH (i := 3) (v := ?_) rfl (by kernel_rfl) (by kernel_rfl) (by kernel_rfl) (fun _ _ _ h => h) (Or.inl ⟨by rfl, ?_⟩) hH ?_
              rotate_left
              · (intro w hSw; (try dsimp only at hSw); go_simp; try with_reducible rfl)
              simp only [Act.put, List.setIfInBounds_toArray, List.set_cons_zero, List.set_cons_succ]
              refine oneH (i := 6) rfl (by kernel_rfl) (fun K hK => ?_)
              go_simp
              go_at_call 60
              refine (HLM.out _).mono ?_; rintro e w4 ⟨rfl, hB4⟩
              have hB5 := hB3.trans (hB4.mono hB3.size)
              refine hK.out _ _ (HCD.out _ hB5) (fun hH => ?_)
              clear hK K
              refine takeH (i := 7) (v := ?_) rfl (by kernel_rfl) (by kernel_rfl) (by kernel_rfl) (fun _ _ _ h => h) (Or.inl ⟨by rfl, ?_⟩) hH ?_
              rotate_left
              · (intro w hSw; (try dsimp only at hSw); go_simp; try with_reducible rfl)
              simp only [Act.put, List.setIfInBounds_toArray, List.set_cons_zero, List.set_cons_succ]
              refine wpAnyH_done (by kernel_rfl) ?_ _
              unfold TailPost
              simp only [List.drop_succ_cons, List.drop_zero]
              have HB6 := hide (HBD.out.trans (hB5.mono HBD.out.size))
              clear hH hB3 hB4 hB5 HJD HLM HCD HBD
              go_wp2_with fail
              go_ret
              exact ⟨ret_str HZ.out.symm, HB6.out⟩
    · have k6 : kD d = 6 := by omega
      have hm0 : iD d = [] := by rcases hiN with h | h; omega; exact h
      have hi2 : (mD d).length ≤ 1000000000 := by
        have := sumN_len (fun x : ByteArray × Dt => 100 + 6 * x.1.size + jbF m x.2) (fun x => by omega) (mD d)
        rw [jbF] at hbd; omega
      have HI := hide fun i x (h : (mD d)[i]? = some x) => And.intro (hM i x h) (And.intro (show x.1.size + jbF m x.2 ≤ 1000000000 by have := hb2 x (List.mem_of_getElem? h); omega) (And.intro (show 6 * x.1.size ≤ 1000000000 by have := sumN_le (fun x : ByteArray × Dt => 100 + 6 * x.1.size + jbF m x.2) (List.mem_of_getElem? h); rw [jbF] at hbd; omega) (And.intro (hkz x.2 (ms_kid (List.mem_of_getElem? h))) (jtF_le true m r' (lv + 1) x.2 (by omega) (hkz x.2 (ms_kid (List.mem_of_getElem? h)))))))
      obtain ⟨L, hL⟩ : ∃ L, L = jparts true lv (jtF true m (lv + 1)) d := ⟨_, rfl⟩
      rw [← hL] at HWR htb
      rw [mems_one hm0] at hL
      have HSUM := hide (show sumN (fun x : ByteArray => x.size + 1) L ≤ 1000000000 by have := sum_one (l := L); omega)
      rw [k6] at HWR
      obtain ⟨xs, hxs⟩ : ∃ k, k = mD d := ⟨_, rfl⟩
      unfold datV datCs
      rw [k6, hm0]
      rw [← hxs] at HI h3 hi2 hL
      obtain ⟨n, hn'⟩ : ∃ k, k = nD d := ⟨_, rfl⟩
      obtain ⟨s, hs⟩ : ∃ k, k = sD d := ⟨_, rfl⟩
      obtain ⟨x, hx⟩ : ∃ k, k = xs.length := ⟨_, rfl⟩
      rw [← hn', ← hs, ← hxs, ← hx]
      rw [← hx] at h3 hi2
      rw [show ((([] : List Dt).length : Nat)) = 0 from rfl]
      have HLL := hide (show L.length = x by rw [hL, List.length_map, hx])
      have HLA := hide (show ∀ i X, xs[i]? = some X → L[i]? = some (jpartM true lv (jtF true m (lv + 1)) X) from fun i X h => by rw [hL, List.getElem?_map, h]; rfl)
      have HX := Lib.hid hx
      clear hn' hs hx hxs hL hI hM hb1 hb2 htb hbd ht hpt hiN hmN hm0 hkz hown hcz hres h1 h2 h4 hRL hBL0 k4 k123 k5 k6 hk1 hk6 hsz hm
      go_enter Tryz.func31, Tryz.ntmps31
      go_upto_region 1 with fail
      rw [← hwL]
      obtain ⟨w1, g, e1, e2, hBL, c0, c1, c2, c3, c4, hROW⟩ := boxD wL 6 n s (.slice A 0 c) (.slice A' x c')
      rw [e1, show w.heap.size + 1 = g by rw [← e2, hwL]; simp, ← hgl]
      have HC := hide fun W (h : Below w1.heap.size w1 W) => (And.intro ((HRL.out.below (hBL.trans (h.mono hBL.size))).cell 0) (row5 (hROW.below h)) : W.cell? ⟨gl, 0, none⟩ = some (.bool true) ∧ _)
      have q0 : w1.cell? ⟨gl, 0, none⟩ = some (.bool true) := (HRL.out.below hBL).cell 0
      have HBL := hide (HB0.out.trans (hBL.mono HB0.out.size))
      have hgl1 : gl < w1.heap.size := (HRL.out.below hBL).lt
      have hg1 : g < w1.heap.size := hROW.lt
      clear e1 e2 hwL hgl hBL hROW HRL HB0
      go_wp2_with fail
      go_loopw [9, 14, 41] (fun ov _ iv W => ov = .slice none 0 0 ∧ iv = .int .i64 0 ∧ W = w1) (fun _ _ _ _ => 0)
      case atStart => exact ⟨rfl, rfl, rfl⟩
      case round =>
        obtain ⟨rfl, rfl, e3⟩ := hrel
        have e3 := e3.symm
        subst e3
        go_wp2_with fail
        go_loopw [9, 16, 62] (fun ov _ iv W => ∃ i : Nat, iv = .int .i64 i ∧ i ≤ x ∧ Hid (Below w1.heap.size w1 W) ∧ Hid (W.ownsRow w1.heap.size 9 1 ov i (strsV (L.take i)))) (fun _ _ iv _ => x - (intOf iv).toNat)
        case atStart => exact ⟨0, rfl, Nat.zero_le _, hide (Below.refl _ _), hide (World.ownsRow_nil _ _ _ _)⟩
        case round =>
          obtain ⟨i, rfl, hi, hB, hO⟩ := hrel
          have hwB := HBL.out.trans (hB.out.mono HBL.out.size)
          by_cases hlt : i < x
          · have hlt' : i < xs.length := by rw [← HX.out]; exact hlt
            obtain ⟨⟨ad, rfl, hb, hlab, a, q, a', q', hfive, hpts⟩, htx, hls, hcx, htl⟩ := HI.out i _ (List.getElem?_eq_getElem hlt')
            obtain ⟨X, hX⟩ : ∃ X, X = xs[i] := ⟨_, rfl⟩
            rw [← hX] at hlab hfive hpts htx hls hcx htl
            have hbb : (ad.add (i * 6)).block < w.heap.size := by rw [block_of_add]; exact hb
            obtain ⟨s0, s1, s2, s3, s4, s5⟩ := six_of ((hwB.cell (p := ad.add (i * 6)) hbb).trans hlab) (hfive.same (p := ⟨_, _, none⟩) hbb (Same.of_below hwB))
            have HCK := hide fun w' (hB' : Below w.heap.size w w') => ih r' (lv + 1) X.2 a q a' q' w' (by omega) hcx (hpts.turn (Same.of_below hB') hB'.size) (by omega) (HTAB.out _ hB')
            have HXX := hide (show strsV (L.take (i + 1)) = strsV (L.take i) ++ [.string (jpartM true lv (jtF true m (lv + 1)) X)] by
              rw [List.take_add_one, HLA.out i _ (List.getElem?_eq_getElem hlt'), strsV_append, hX]; rfl)
            unfold jpartM at HXX
            unfold datV datCs at HCK
            obtain ⟨T, hT⟩ : ∃ T, T = jtF true m (lv + 1) X.2 := ⟨_, rfl⟩
            obtain ⟨LB, hLB⟩ : ∃ T, T = lineB true (lv + 1) := ⟨_, rfl⟩
            have hls : LB.size ≤ 100 := by rw [hLB]; have := lineB_size true (lv + 1); omega
            rw [← hT] at HCK HXX htl
            rw [← hLB] at HXX
            have HQT := hide fun W => quoted_run X.1 (by omega) W
            have hqs := jqB_size X.1
            obtain ⟨QT, hQT⟩ : ∃ T, T = jqB X.1 := ⟨_, rfl⟩
            rw [← hQT] at HQT HXX hqs
            have hcol : colB true = ⟨#[58, 32]⟩ := rfl
            rw [hcol] at HXX
            have HLN1 := hide fun W => (HLN.out W)
            rw [← hLB] at HLN1
            rw [hcast] at HCK
            have hq1 : QT.size ≤ 1100000000 := by omega
            have hov1 : ¬ 9223372036854775807 < LB.size + QT.size := by omega
            have hov2 : ¬ 9223372036854775807 < LB.size + QT.size + 2 := by omega
            have hov3 : ¬ 9223372036854775807 < LB.size + QT.size + 2 + T.size := by omega
            obtain ⟨c0, c1, c2, c3, c4, c5⟩ := HC.out _ hB.out
            clear hlab hfive hpts hX hlt' hb hbb hT hLB hQT hcol htx hcx htl hls hqs
            go_upto_region 24 with fail
            obtain ⟨wa, hwa⟩ : ∃ wa, wa = wr.alloc (Obj.cells #[Value.string X.1, Value.int IntKind.i64 (kD X.2), Value.int IntKind.i64 (nD X.2), Value.string (sD X.2), Value.slice a (iD X.2).length q, Value.slice a' (mD X.2).length q'] 57) := ⟨_, rfl⟩
            obtain ⟨b, hbb⟩ : ∃ b, b = wr.heap.size := ⟨_, rfl⟩
            have hR : Row wa b 57 [Value.string X.1, Value.int IntKind.i64 (kD X.2), Value.int IntKind.i64 (nD X.2), Value.string (sD X.2), Value.slice a (iD X.2).length q, Value.slice a' (mD X.2).length q'] := by rw [hwa, hbb]; exact Row.new wr _ _
            have HBA := hide (show Below w1.heap.size w1 wa by rw [hwa]; exact below_al hB.out _)
            have HOA := hide (show wa.ownsRow w1.heap.size 9 1 u9 i (strsV (L.take i)) by rw [hwa]; exact hO.out.alloc _)
            have hS0 : w1.heap.size ≤ wa.heap.size := HBA.out.size
            rw [← hwa, ← hbb]
            clear hwa hbb
            obtain ⟨wd, hwd⟩ : ∃ W, W = wa.drew := ⟨_, rfl⟩
            have hBD : Below wa.heap.size wa wd := by rw [hwd]; exact (Below.refl _ _).drew
            have hsd : wd.heap.size = wa.heap.size := by rw [hwd]; rfl
            have hRD := hR.below hBD
            have HBD := hide (HBA.out.trans (hBD.mono hS0))
            have HOD := hide (own_below HOA.out hBD)
            have hbsd := HBD.out.size
            have HS := hide fun W (h : Below wd.heap.size wd W) => (And.intro (HC.out W (HBD.out.trans (h.mono hbsd))).1 (row6 (hRD.below h)) : W.cell? ⟨gl, 0, none⟩ = some (.bool true) ∧ _)
            have HWB := hide fun W (h : Below wd.heap.size wd W) => HBL.out.trans ((HBD.out.trans (h.mono hbsd)).mono HBL.out.size)
            clear hR hRD hBD HBA HOA hS0 hsd s0 s1 s2 s3 s4 hB hO hwB c0 c1 c2 c3 c4 c5
            refine region_two 19 (fun W => W.cell? ⟨gl, 0, none⟩ = some (.bool true) ∧ W.cell? ⟨b, 0, none⟩ = some (.string X.1) ∧ W.cell? ⟨b, 1, none⟩ = some (.int .i64 (kD X.2)) ∧ W.cell? ⟨b, 2, none⟩ = some (.int .i64 (nD X.2)) ∧ W.cell? ⟨b, 3, none⟩ = some (.string (sD X.2)) ∧
                W.cell? ⟨b, 4, none⟩ = some (.slice a (iD X.2).length q) ∧ W.cell? ⟨b, 5, none⟩ = some (.slice a' (mD X.2).length q')) (by kernel_rfl) (by kernel_rfl) (by rw [← hwd]; exact HS.out _ (Below.refl _ _)) (fun hH => ?_)
            rw [← hwd] at hH ⊢
            clear hwd
            simp only [List.take_succ_cons, List.take_zero]
            refine takeH (i := 0) (v := ?_) rfl (by kernel_rfl) (by kernel_rfl) (by kernel_rfl) (fun _ _ _ h => h) (Or.inl ⟨by rfl, ?_⟩) hH ?_
            rotate_left
            · (intro w hSw; (try dsimp only at hSw); go_simp; try with_reducible rfl)
            simp only [Act.put, List.setIfInBounds_toArray, List.set_cons_zero, List.set_cons_succ]
            refine takeH (i := 1) (v := ?_) rfl (by kernel_rfl) (by kernel_rfl) (by kernel_rfl) (fun _ _ _ h => h) (Or.inl ⟨by rfl, ?_⟩) hH ?_
            rotate_left
            · (intro w hSw; (try dsimp only at hSw); go_simp; try with_reducible rfl)
            simp only [Act.put, List.setIfInBounds_toArray, List.set_cons_zero, List.set_cons_succ]
            refine takeH (i := 2) (v := ?_) rfl (by kernel_rfl) (by kernel_rfl) (by kernel_rfl) (fun _ _ _ h => h) (Or.inl ⟨by rfl, ?_⟩) hH ?_
            rotate_left
            · (intro w hSw; (try dsimp only at hSw); go_simp; try with_reducible rfl)
            simp only [Act.put, List.setIfInBounds_toArray, List.set_cons_zero, List.set_cons_succ]
            refine takeH (i := 3) (v := ?_) rfl (by kernel_rfl) (by kernel_rfl) (by kernel_rfl) (fun _ _ _ h => h) (Or.inl ⟨by rfl, ?_⟩) hH ?_
            rotate_left
            · (intro w hSw; (try dsimp only at hSw); go_simp; try with_reducible rfl)
            simp only [Act.put, List.setIfInBounds_toArray, List.set_cons_zero, List.set_cons_succ]
            refine takeH (i := 5) (v := ?_) rfl (by kernel_rfl) (by kernel_rfl) (by kernel_rfl) (fun _ _ _ h => h) (Or.inl ⟨by rfl, ?_⟩) hH ?_
            rotate_left
            · (intro w hSw; (try dsimp only at hSw); go_simp; try with_reducible rfl)
            simp only [Act.put, List.setIfInBounds_toArray, List.set_cons_zero, List.set_cons_succ]
            refine takeH (i := 6) (v := ?_) rfl (by kernel_rfl) (by kernel_rfl) (by kernel_rfl) (fun _ _ _ h => h) (Or.inl ⟨by rfl, ?_⟩) hH ?_
            rotate_left
            · (intro w hSw; (try dsimp only at hSw); go_simp; try with_reducible rfl)
            simp only [Act.put, List.setIfInBounds_toArray, List.set_cons_zero, List.set_cons_succ]
            refine takeH (i := 9) (v := ?_) rfl (by kernel_rfl) (by kernel_rfl) (by kernel_rfl) (fun _ _ _ h => h) (Or.inl ⟨by rfl, ?_⟩) hH ?_
            rotate_left
            · (intro w hSw; (try dsimp only at hSw); go_simp; try with_reducible rfl)
            simp only [Act.put, List.setIfInBounds_toArray, List.set_cons_zero, List.set_cons_succ]
            refine takeH (i := 11) (v := ?_) rfl (by kernel_rfl) (by kernel_rfl) (by kernel_rfl) (fun _ _ _ h => h) (Or.inl ⟨by rfl, ?_⟩) hH ?_
            rotate_left
            · (intro w hSw; (try dsimp only at hSw); go_simp; try with_reducible rfl)
            simp only [Act.put, List.setIfInBounds_toArray, List.set_cons_zero, List.set_cons_succ]
            refine takeH (i := 12) (v := ?_) rfl (by kernel_rfl) (by kernel_rfl) (by kernel_rfl) (fun _ _ _ h => h) (Or.inl ⟨by rfl, ?_⟩) hH ?_
            rotate_left
            · (intro w hSw; (try dsimp only at hSw); go_simp; try with_reducible rfl)
            simp only [Act.put, List.setIfInBounds_toArray, List.set_cons_zero, List.set_cons_succ]
            refine takeH (i := 13) (v := ?_) rfl (by kernel_rfl) (by kernel_rfl) (by kernel_rfl) (fun _ _ _ h => h) (Or.inl ⟨by rfl, ?_⟩) hH ?_
            rotate_left
            · (intro w hSw; (try dsimp only at hSw); go_simp; try with_reducible rfl)
            simp only [Act.put, List.setIfInBounds_toArray, List.set_cons_zero, List.set_cons_succ]
            refine takeH (i := 14) (v := ?_) rfl (by kernel_rfl) (by kernel_rfl) (by kernel_rfl) (fun _ _ _ h => h) (Or.inl ⟨by rfl, ?_⟩) hH ?_
            rotate_left
            · (intro w hSw; (try dsimp only at hSw); go_simp; try with_reducible rfl)
            simp only [Act.put, List.setIfInBounds_toArray, List.set_cons_zero, List.set_cons_succ]
            refine takeH (i := 15) (v := ?_) rfl (by kernel_rfl) (by kernel_rfl) (by kernel_rfl) (fun _ _ _ h => h) (Or.inl ⟨by rfl, ?_⟩) hH ?_
            rotate_left
            · (intro w hSw; (try dsimp only at hSw); go_simp; try with_reducible rfl)
            simp only [Act.put, List.setIfInBounds_toArray, List.set_cons_zero, List.set_cons_succ]
            refine oneH (i := 4) rfl (by kernel_rfl) (fun K hK => ?_)
            go_simp
            go_at_call 60
            refine (HLN1.out _).mono ?_; rintro e w3 ⟨rfl, hB3⟩
            refine hK.out _ _ (HS.out _ hB3) (fun hH => ?_)
            clear hK K
            refine oneH (i := 7) rfl (by kernel_rfl) (fun K hK => ?_)
            go_simp
            go_at_call 58
            refine (HQT.out _).mono ?_; rintro e w5 ⟨rfl, hB6⟩
            have hB3 := hB3.trans (hB6.mono hB3.size)
            refine hK.out _ _ (HS.out _ hB3) (fun hH => ?_)
            clear hK K
            refine takeH (i := 8) (v := ?_) rfl (by kernel_rfl) (by kernel_rfl) (by kernel_rfl) (fun _ _ _ h => h) (Or.inl ⟨by rfl, ?_⟩) hH ?_
            rotate_left
            · (intro w hSw; (try dsimp only at hSw); go_simp; try with_reducible rfl)
            simp only [Act.put, List.setIfInBounds_toArray, List.set_cons_zero, List.set_cons_succ]
            refine takeH (i := 10) (v := ?_) rfl (by kernel_rfl) (by kernel_rfl) (by kernel_rfl) (fun _ _ _ h => h) (Or.inl ⟨by rfl, ?_⟩) hH ?_
            rotate_left
            · (intro w hSw; (try dsimp only at hSw); go_simp; try with_reducible rfl)
            simp only [Act.put, List.setIfInBounds_toArray, List.set_cons_zero, List.set_cons_succ]
            refine oneH (i := 16) rfl (by kernel_rfl) (fun K hK => ?_)
            go_simp
            go_at_call 31
            refine (HCK.out _ (HWB.out _ hB3)).mono ?_; rintro e w4 ⟨rfl, hB4⟩
            have hB5 := hB3.trans (hB4.mono hB3.size)
            refine hK.out _ _ (HS.out _ hB5) (fun hH => ?_)
            clear hK K
            refine takeH (i := 17) (v := ?_) rfl (by kernel_rfl) (by kernel_rfl) (by kernel_rfl) (fun _ _ _ h => h) (Or.inl ⟨by rfl, ?_⟩) hH ?_
            rotate_left
            · (intro w hSw; (try dsimp only at hSw); go_simp; try with_reducible rfl)
            simp only [Act.put, List.setIfInBounds_toArray, List.set_cons_zero, List.set_cons_succ]
            refine oneH (i := 18) rfl (by kernel_rfl) (fun K hK => ?_)
            go_simp
            refine hK.out _ _ (HS.out _ (below_al hB5 _)) (fun hH => ?_)
            clear hK K
            refine wpAnyH_done (by kernel_rfl) ?_ _
            unfold TailPost
            simp only [List.drop_succ_cons, List.drop_zero]
            have HB4 := hide hB5
            have hs4 := hB5.size
            have HO4 := hide (own_below HOD.out hB5)
            clear hH hB3 hB4 hB5 HCK HLN1 HS HWB HQT
            go_wp2_with (at_builtin; refine wpList_append_all _ rfl (.tmp 66) (.tmp 84) _ rfl w1.heap.size 9 i0 _ 1 16 Tryz.underlying70 hi0 hz0 hz1 hz2 rfl (by omega) u9 i (strsV (L.take i)) rfl (HO4.out.alloc _) (some ⟨w4.heap.size, 0, none⟩) 1 1 [.string (LB ++ QT ++ ⟨#[58, 32]⟩ ++ T)] rfl (by intro h; cases h) rfl (by intro ad' h; injection h with h; subst h; exact World.news_of_block (heap_alloc_new _ _)) one_str (by unfold maxLen; omega) (by omega) (by simp; omega) ?_)
            intro v' w' o1 o2
            have HB5 := hide (Below.grown (below_al (HBD.out.trans (HB4.out.mono hbsd)) (.cells #[.string (LB ++ QT ++ ⟨#[58, 32]⟩ ++ T)] 9)) o2.out (by simp; omega) (fun k e => (HO4.out.lt k e).1))
            have HO5 := hide (show w'.ownsRow w1.heap.size 9 1 v' (i + 1) (strsV (L.take (i + 1))) by rw [HXX.out]; exact o1.out)
            clear o1 o2 HO4 HOD HB4 HBD HXX
            go_wp2_with fail
            go_roundw
            case rel => exact ⟨i + 1, by go_num, by omega, HB5, HO5⟩
            case measure => simp [intOf]; omega
          · obtain rfl : x = i := by omega
            obtain ⟨c0, c1, c2, c3, c4, c5⟩ := HC.out _ hB.out
            have HO1 := hide (show wr.ownsRow w1.heap.size 9 1 u9 x (strsV L) by
              have e : L.take x = L := by rw [← HLL.out, List.take_length]
              have := hO.out
              rw [e] at this; exact this)
            have HJ := hide fun W (h : Below wr.heap.size wr W) => joinC_run u9 L w1.heap.size W (by rw [HLL.out]; exact own_below HO1.out h) HSUM.out
            have HB1 := hide hB.out
            obtain ⟨A9, c9, rfl⟩ := own_form HO1.out
            clear hO hB hlt hi HI HX HLA HO1 ih
            by_cases hx0 : x = 0
            · subst hx0
              have HZ := hide (show res = ⟨#[123]⟩ ++ ⟨#[125]⟩ from HWR.out.trans (wrap_nil HLL.out))
              go_wp2_with fail
              go_ret
              exact ⟨ret_str HZ.out.symm, hwB⟩
            · have HZ := hide (show res = ⟨#[123]⟩ ++ joinC L ++ lineB true lv ++ ⟨#[125]⟩ from HWR.out.trans (wrap_cons (by rw [HLL.out]; exact hx0)))
              have hJs := Nat.le_trans (joinC_size L) HSUM.out
              have hLs := lineB_size true lv
              have hg1 : ((x : Int) == 0) = false := by simp; omega
              have HLM := hide fun W => HLN0.out W
              obtain ⟨J, hJ⟩ : ∃ J, J = joinC L := ⟨_, rfl⟩
              obtain ⟨LB, hLB⟩ : ∃ J, J = lineB true lv := ⟨_, rfl⟩
              rw [← hJ] at HJ HZ hJs
              rw [← hLB] at HLM HZ hLs
              have HCW := hide fun W (h : Below wr.heap.size wr W) => (HC.out W (HB1.out.trans (h.mono HB1.out.size))).1
              have ho1 : ¬ 9223372036854775807 < 1 + J.size := by omega
              have ho2 : ¬ 9223372036854775807 < 1 + J.size + LB.size := by omega
              have ho3 : ¬ 9223372036854775807 < 1 + J.size + LB.size + 1 := by omega
              clear hJ hLB HSUM HWR hx0
              go_upto_region 28 with fail
              obtain ⟨wd, hwd⟩ : ∃ W, W = wr.drew := ⟨_, rfl⟩
              have hBD : Below wr.heap.size wr wd := by rw [hwd]; exact (Below.refl _ _).drew
              have HJD := hide fun W (h : Below wd.heap.size wd W) => HJ.out W (hBD.trans (h.mono hBD.size))
              have HCD := hide fun W (h : Below wd.heap.size wd W) => HCW.out W (hBD.trans (h.mono hBD.size))
              have HBD := hide (hwB.trans (hBD.mono hwB.size))
              clear hBD HJ HCW hwB HB1 c0 c1 c2 c3 c4 c5
              refine region_two 9 (fun W => W.cell? ⟨gl, 0, none⟩ = some (.bool true)) (by kernel_rfl) (by kernel_rfl) (by rw [← hwd]; exact HCD.out _ (Below.refl _ _)) (fun hH => ?_)
              rw [← hwd] at hH ⊢
              clear hwd
              simp only [List.take_succ_cons, List.take_zero]
              refine takeH (i := 0) (v := ?_) rfl (by kernel_rfl) (by kernel_rfl) (by kernel_rfl) (fun _ _ _ h => h) (Or.inl ⟨by rfl, ?_⟩) hH ?_
              rotate_left
              · (intro w hSw; (try dsimp only at hSw); go_simp; try with_reducible rfl)
              simp only [Act.put, List.setIfInBounds_toArray, List.set_cons_zero, List.set_cons_succ]
              refine takeH (i := 1) (v := ?_) rfl (by kernel_rfl) (by kernel_rfl) (by kernel_rfl) (fun _ _ _ h => h) (Or.inl ⟨by rfl, ?_⟩) hH ?_
              rotate_left
              · (intro w hSw; (try dsimp only at hSw); go_simp; try with_reducible rfl)
              simp only [Act.put, List.setIfInBounds_toArray, List.set_cons_zero, List.set_cons_succ]
              refine takeH (i := 4) (v := ?_) rfl (by kernel_rfl) (by kernel_rfl) (by kernel_rfl) (fun _ _ _ h => h) (Or.inl ⟨by rfl, ?_⟩) hH ?_
              rotate_left
              · (intro w hSw; (try dsimp only at hSw); go_simp; try with_reducible rfl)
              simp only [Act.put, List.setIfInBounds_toArray, List.set_cons_zero, List.set_cons_succ]
              refine takeH (i := 5) (v := ?_) rfl (by kernel_rfl) (by kernel_rfl) (by kernel_rfl) (fun _ _ _ h => h) (Or.inl ⟨by rfl, ?_⟩) hH ?_
              rotate_left
              · (intro w hSw; (try dsimp only at hSw); go_simp; try with_reducible rfl)
              simp only [Act.put, List.setIfInBounds_toArray, List.set_cons_zero, List.set_cons_succ]
              refine takeH (i := 8) (v := ?_) rfl (by kernel_rfl) (by kernel_rfl) (by kernel_rfl) (fun _ _ _ h => h) (Or.inl ⟨by rfl, ?_⟩) hH ?_
              rotate_left
              · (intro w hSw; (try dsimp only at hSw); go_simp; try with_reducible rfl)
              simp only [Act.put, List.setIfInBounds_toArray, List.set_cons_zero, List.set_cons_succ]
              refine oneH (i := 2) rfl (by kernel_rfl) (fun K hK => ?_)
              go_simp
              go_at_call 61
              refine (HJD.out _ (Below.refl _ _)).mono ?_; rintro e w3 ⟨rfl, hB3⟩
              refine hK.out _ _ (HCD.out _ hB3) (fun hH => ?_)
              clear hK K
              refine takeH (i := 3) (v := ?_) rfl (by kernel_rfl) (by kernel_rfl) (by kernel_rfl) (fun _ _ _ h => h) (Or.inl ⟨by rfl, ?_⟩) hH ?_
              rotate_left
              · (intro w hSw; (try dsimp only at hSw); go_simp; try with_reducible rfl)
              simp only [Act.put, List.setIfInBounds_toArray, List.set_cons_zero, List.set_cons_succ]
              refine oneH (i := 6) rfl (by kernel_rfl) (fun K hK => ?_)
              go_simp
              go_at_call 60
              refine (HLM.out _).mono ?_; rintro e w4 ⟨rfl, hB4⟩
              have hB5 := hB3.trans (hB4.mono hB3.size)
              refine hK.out _ _ (HCD.out _ hB5) (fun hH => ?_)
              clear hK K
              refine takeH (i := 7) (v := ?_) rfl (by kernel_rfl) (by kernel_rfl) (by kernel_rfl) (fun _ _ _ h => h) (Or.inl ⟨by rfl, ?_⟩) hH ?_
              rotate_left
              · (intro w hSw; (try dsimp only at hSw); go_simp; try with_reducible rfl)
              simp only [Act.put, List.setIfInBounds_toArray, List.set_cons_zero, List.set_cons_succ]
              refine wpAnyH_done (by kernel_rfl) ?_ _
              unfold TailPost
              simp only [List.drop_succ_cons, List.drop_zero]
              have HB6 := hide (HBD.out.trans (hB5.mono HBD.out.size))
              clear hH hB3 hB4 hB5 HJD HLM HCD HBD
              go_wp2_with fail
              go_ret
              exact ⟨ret_str HZ.out.symm, HB6.out⟩
end Go.Proofs.YtmmbbndoimleaaaGreatDoor

/- laid, Text, Indent of package jsontext. -/
namespace Go.Proofs.YtmmbbndoimleaaaGreatDoor
open Go.RowKit

/-- The document, if the data is valid. -/
def jtD (b : Bool) (m : Nat) (d : Dt) : ByteArray := if checkD d = 0 then jtF b m 0 d else ByteArray.empty
theorem jtext_run (b : Bool) (m r lv : Nat) (d : Dt) (A : Option Addr) (c : Nat) (A' : Option Addr) (c' : Nat) (w : World) (h1 : lv + r ≤ 16) (h2 : checkF r d = 0) (h3 : Parts w w.heap.size m d A c A' c') (h4 : jbF m d ≤ 1000000000) (h5 : Tab w) :
    Calls Tryz.prog 31 #[.agg #[.bool b], datV d A c A' c', .int .i64 lv] w fun e w' => e = .returned (.string (jtF b m lv d)) ∧ Below w.heap.size w w' := by
  cases b with
  | false => exact jtext_false m r lv d A c A' c' w h1 h2 h3 h4 h5
  | true => exact jtext_true m r lv d A c A' c' w h1 h2 h3 h4 h5
set_option maxRecDepth 20000 in
theorem laid_run (b : Bool) (m : Nat) (d : Dt) (A : Option Addr) (c : Nat) (A' : Option Addr) (c' : Nat) (w : World) (hp : Parts w w.heap.size m d A c A' c') (hf : FitD 16 d) (hb : jbF m d ≤ 1000000000) (ht : Tab w) :
    Calls Tryz.prog 20 #[datV d A c A' c', .agg #[.bool b]] w fun e w' => e = .returned (.tuple #[.string (jtD b m d), .int .i64 (checkD d)]) ∧ Below w.heap.size w w' := by
  have HC := hide fun w' (hB : Below w.heap.size w w') => Check_run m d A c A' c' w' (hp.turn (Same.of_below hB) hB.size) hf
  have HT := hide fun (hz : checkD d = 0) w' (hB : Below w.heap.size w w') => jtext_run b m 16 0 d A c A' c' w' (by omega) hz (hp.turn (Same.of_below hB) hB.size) hb (tab_below ht hB)
  unfold jtD
  obtain ⟨z, hz⟩ : ∃ z, z = checkD d := ⟨_, rfl⟩
  rw [← hz] at HC HT ⊢
  obtain ⟨T, hT⟩ : ∃ z, z = jtF b m 0 d := ⟨_, rfl⟩
  rw [← hT] at HT ⊢
  unfold datV datCs at HC HT
  unfold datV datCs
  obtain ⟨h1, h2, h3, h4⟩ := hp.lens
  have hm := maxLen_le h2; have hm' := maxLen_le h4
  obtain ⟨k, hk⟩ : ∃ k, k = kD d := ⟨_, rfl⟩
  obtain ⟨n, hn'⟩ : ∃ k, k = nD d := ⟨_, rfl⟩
  obtain ⟨s, hs⟩ : ∃ k, k = sD d := ⟨_, rfl⟩
  obtain ⟨x, hx⟩ : ∃ k, k = (iD d).length := ⟨_, rfl⟩
  obtain ⟨y, hy⟩ : ∃ k, k = (mD d).length := ⟨_, rfl⟩
  rw [← hk, ← hn', ← hs, ← hx, ← hy] at HC HT ⊢
  rw [← hx] at h1
  rw [← hy] at h3
  clear hp hf hb ht hz hT hk hn' hs hx hy h2 h4
  go_enter Tryz.func20, Tryz.ntmps20
  go_upto_region 1 with fail
  obtain ⟨w0, g, e1, e2, hBL, c0, c1, c2, c3, c4, hROW⟩ := boxD w k n s (.slice A x c) (.slice A' y c')
  rw [e1]
  have hRL : Row (w0.alloc (.cells #[.bool b] 42)) w0.heap.size 42 [.bool b] := Row.new w0 _ _
  have hs0 : w.heap.size + 1 = w0.heap.size := by rw [← e1]; simp
  rw [e2, ← e2, hs0, e2]
  obtain ⟨w1, hw1⟩ : ∃ W, W = w0.alloc (.cells #[.bool b] 42) := ⟨_, rfl⟩
  obtain ⟨gl, hgl⟩ : ∃ g, g = w0.heap.size := ⟨_, rfl⟩
  rw [← hw1, ← hgl] at hRL ⊢
  have hB01 : Below w0.heap.size w0 w1 := by rw [hw1]; exact (Below.refl _ _).alloc (Nat.le_refl _) _
  have HBL := hide (hBL.trans (hB01.mono hBL.size)); have HROW := hide (hROW.below hB01); have HRL := hide hRL
  clear e1 e2 hBL hROW hRL hB01 hw1 hgl hs0 c0 c1 c2 c3 c4
  obtain ⟨c0, c1, c2, c3, c4⟩ := row5 HROW.out
  have q0 : w1.cell? ⟨gl, 0, none⟩ = some (.bool b) := HRL.out.cell 0
  go_wp2_with fail
  refine (HC.out _ HBL.out).mono ?_; rintro e w2 ⟨rfl, hB2⟩
  obtain ⟨c0', c1', c2', c3', c4'⟩ := row5 (HROW.out.below hB2)
  have q0' : w2.cell? ⟨gl, 0, none⟩ = some (.bool b) := (HRL.out.below hB2).cell 0
  have HB2 := hide (HBL.out.trans (hB2.mono HBL.out.size))
  clear c0 c1 c2 c3 c4 q0 hB2 HROW HBL HC HRL
  by_cases hz : z = 0
  · subst hz
    have HT1 := hide (HT.out rfl)
    clear HT
    go_wp2_with fail
    refine (HT1.out _ HB2.out).mono ?_; rintro e w3 ⟨rfl, hB3⟩
    have HB3 := hide (HB2.out.trans (hB3.mono HB2.out.size))
    clear hB3
    go_wp2_with fail
    go_ret2
    exact ⟨rfl, HB3.out⟩
  · have g1 : (z != 0) = true := by simpa using hz
    clear HT
    go_wp2_with fail
    go_ret2
    exact ⟨by first | rfl | (rw [if_neg hz]; rfl) | (simp [hz]; rfl), HB2.out⟩
set_option maxRecDepth 20000 in
theorem jText_run (m : Nat) (d : Dt) (A : Option Addr) (c : Nat) (A' : Option Addr) (c' : Nat) (w : World) (hp : Parts w w.heap.size m d A c A' c') (hf : FitD 16 d) (hb : jbF m d ≤ 1000000000) (ht : Tab w) :
    Calls Tryz.prog 9 #[datV d A c A' c'] w fun e w' => e = .returned (.tuple #[.string (jtD false m d), .int .i64 (checkD d)]) ∧ Below w.heap.size w w' := by
  have HC := hide fun w' (hB : Below w.heap.size w w') => laid_run false m d A c A' c' w' (hp.turn (Same.of_below hB) hB.size) hf hb (tab_below ht hB)
  obtain ⟨z, hz⟩ : ∃ z, z = checkD d := ⟨_, rfl⟩
  obtain ⟨T, hT⟩ : ∃ z, z = jtD false m d := ⟨_, rfl⟩
  rw [← hz, ← hT] at HC ⊢
  unfold datV datCs at HC
  unfold datV datCs
  clear hp hf hb ht hz hT
  go_enter Tryz.func9, Tryz.ntmps9
  go_upto_region 1 with fail
  obtain ⟨w1, g, e1, e2, hBL, c0, c1, c2, c3, c4, _⟩ := boxD w (kD d) (nD d) (sD d) (.slice A (iD d).length c) (.slice A' (mD d).length c')
  rw [e1, e2]
  have HBL := hide hBL
  clear e1 e2 hBL
  go_wp2_with fail
  refine (HC.out _ HBL.out).mono ?_; rintro e w2 ⟨rfl, hB2⟩
  have HB2 := hide (HBL.out.trans (hB2.mono HBL.out.size))
  go_wp2_with fail
  go_ret2
  exact ⟨rfl, HB2.out⟩
set_option maxRecDepth 20000 in
theorem jIndent_run (m : Nat) (d : Dt) (A : Option Addr) (c : Nat) (A' : Option Addr) (c' : Nat) (w : World) (hp : Parts w w.heap.size m d A c A' c') (hf : FitD 16 d) (hb : jbF m d ≤ 1000000000) (ht : Tab w) :
    Calls Tryz.prog 11 #[datV d A c A' c'] w fun e w' => e = .returned (.tuple #[.string (jtD true m d), .int .i64 (checkD d)]) ∧ Below w.heap.size w w' := by
  have HC := hide fun w' (hB : Below w.heap.size w w') => laid_run true m d A c A' c' w' (hp.turn (Same.of_below hB) hB.size) hf hb (tab_below ht hB)
  obtain ⟨z, hz⟩ : ∃ z, z = checkD d := ⟨_, rfl⟩
  obtain ⟨T, hT⟩ : ∃ z, z = jtD true m d := ⟨_, rfl⟩
  rw [← hz, ← hT] at HC ⊢
  unfold datV datCs at HC
  unfold datV datCs
  clear hp hf hb ht hz hT
  go_enter Tryz.func11, Tryz.ntmps11
  go_upto_region 1 with fail
  obtain ⟨w1, g, e1, e2, hBL, c0, c1, c2, c3, c4, _⟩ := boxD w (kD d) (nD d) (sD d) (.slice A (iD d).length c) (.slice A' (mD d).length c')
  rw [e1, e2]
  have HBL := hide hBL
  clear e1 e2 hBL
  go_wp2_with fail
  refine (HC.out _ HBL.out).mono ?_; rintro e w2 ⟨rfl, hB2⟩
  have HB2 := hide (HBL.out.trans (hB2.mono HBL.out.size))
  go_wp2_with fail
  go_ret2
  exact ⟨rfl, HB2.out⟩
end Go.Proofs.YtmmbbndoimleaaaGreatDoor

/- The chapter's sample and example. -/
namespace Go.Proofs.YtmmbbndoimleaaaGreatDoor
open Go.RowKit

def jL : Dt := mkD 5 0 ⟨#[]⟩ [mkD 1 0 ⟨#[]⟩ [] []] []
def jD : Dt := mkD 6 0 ⟨#[]⟩ [] [(⟨#[97]⟩, mkD 3 15000 ⟨#[]⟩ [] []), (⟨#[98]⟩, jL)]
def jS1 : ByteArray := ⟨#[123, 34, 97, 34, 58, 49, 46, 53, 44, 34, 98, 34, 58, 91, 110, 117, 108, 108, 93, 125]⟩
def jS2 : ByteArray := ⟨#[123, 10, 9, 34, 97, 34, 58, 32, 49, 46, 53, 44, 10, 9, 34, 98, 34, 58, 32, 91, 10, 9, 9, 110, 117, 108, 108, 10, 9, 93, 10, 125]⟩
theorem jleaf_parts (w : World) (B m : Nat) (k n : Int) (s : ByteArray) : Parts w B (m + 1) (mkD k n s [] []) none 0 none 0 :=
  ⟨⟨Nat.le_refl _, Nat.zero_le _, Nat.le_refl _, Nat.zero_le _⟩, fun i x h => by simp at h, fun i x h => by simp at h⟩
theorem infoDs : Tryz.prog.underlying 25 = Tryz.prog.underlying 25 := rfl

set_option maxRecDepth 20000 in
set_option maxHeartbeats 1000000 in
theorem sample_run (w : World) : Calls Tryz.prog 19 #[] w fun e w' => ∃ a c a' c', e = .returned (datV jD a c a' c') ∧ Below w.heap.size w w' ∧ Parts w' w'.heap.size 3 jD a c a' c' := by
  go_enter Tryz.func19, Tryz.ntmps19
  go_wp2_with fail
  have R0 := Row.new w 25 [.int .i64 6, .int .i64 0, .string ⟨#[]⟩, .slice none 0 0, .slice (some ⟨w.heap.size + 1 + 1, 0, none⟩) 2 2]
  obtain ⟨w0, hw0⟩ : ∃ w0, w0 = w.alloc (Obj.cells #[Value.int .i64 6, .int .i64 0, .string ⟨#[]⟩, .slice none 0 0, .slice (some ⟨w.heap.size + 1 + 1, 0, none⟩) 2 2] 25) := ⟨_, rfl⟩
  have R1 := Row.new w0 25 (datCs (mkD 1 0 ⟨#[]⟩ [] []) none 0 none 0)
  obtain ⟨w1, hw1⟩ : ∃ w1, w1 = w0.alloc (Obj.cells (datCs (mkD 1 0 ⟨#[]⟩ [] []) none 0 none 0).toArray 25) := ⟨_, rfl⟩
  have R3 := Row.new w1 57 ((.string ⟨#[97]⟩ :: datCs (mkD 3 15000 ⟨#[]⟩ [] []) none 0 none 0) ++ (.string ⟨#[98]⟩ :: datCs jL (some ⟨w.heap.size + 1, 0, none⟩) 1 none 0))
  obtain ⟨w3, hw3⟩ : ∃ w3, w3 = w1.alloc (Obj.cells ((.string ⟨#[97]⟩ :: datCs (mkD 3 15000 ⟨#[]⟩ [] []) none 0 none 0) ++ (.string ⟨#[98]⟩ :: datCs jL (some ⟨w.heap.size + 1, 0, none⟩) 1 none 0)).toArray 57) := ⟨_, rfl⟩
  have s0 : w0.heap.size = w.heap.size + 1 := by rw [hw0]; simp
  have s1 : w1.heap.size = w.heap.size + 1 + 1 := by rw [hw1]; simp [s0]
  have s3 : w3.heap.size = w.heap.size + 1 + 1 + 1 := by rw [hw3]; simp [s1]
  have b1 : Below w0.heap.size w0 w1 := by rw [hw1]; exact (Below.refl _ _).alloc (Nat.le_refl _) _
  have b3 : Below w1.heap.size w1 w3 := by rw [hw3]; exact (Below.refl _ _).alloc (Nat.le_refl _) _
  have b0 : Below w.heap.size w w0 := by rw [hw0]; exact (Below.refl _ _).alloc (Nat.le_refl _) _
  have hB : Below w.heap.size w w3 := (b0.trans (b1.mono b0.size)).trans (b3.mono (by omega))
  rw [← hw0] at R0
  rw [← hw1, s0] at R1
  rw [← hw3, s1] at R3
  have Q0 := (R0.below b1).below b3
  have Q1 := R1.below b3
  have hI : DatsAt (Parts w3 w3.heap.size 1) w3 w3.heap.size (some ⟨w.heap.size + 1, 0, none⟩) [mkD 1 0 ⟨#[]⟩ [] []] :=
    DatsAt.of_flat (FlatD.one (jleaf_parts _ _ 0 _ _ _)) (by show w.heap.size + 1 < _; omega) (fun j u hu => by rw [add_head, Q1.cell]; exact hu)
  have hL : Parts w3 w3.heap.size 2 jL (some ⟨w.heap.size + 1, 0, none⟩) 1 none 0 := ⟨⟨by decide, by decide, by decide, by decide⟩, hI, fun i x h => by simp [jL] at h⟩
  have hM : MemsAt (Parts w3 w3.heap.size 2) w3 w3.heap.size (some ⟨w.heap.size + 1 + 1, 0, none⟩) [(⟨#[97]⟩, mkD 3 15000 ⟨#[]⟩ [] []), (⟨#[98]⟩, jL)] :=
    MemsAt.of_flat ((FlatM.one (m := (⟨#[97]⟩, mkD 3 15000 ⟨#[]⟩ [] [])) (jleaf_parts _ _ 1 _ _ _)).append (FlatM.one (m := (⟨#[98]⟩, jL)) hL)) (by show w.heap.size + 1 + 1 < _; omega) (fun j u hu => by rw [add_head, R3.cell]; exact hu)
  have hE : Parts w3 w3.heap.size 3 jD none 0 (some ⟨w.heap.size + 1 + 1, 0, none⟩) 2 := ⟨⟨by decide, by decide, by decide, by decide⟩, fun i x h => by simp [jD] at h, hM⟩
  have hW : ((w.alloc (Obj.cells #[Value.int .i64 6, .int .i64 0, .string ⟨#[]⟩, .slice none 0 0, .slice (some ⟨w.heap.size + 1 + 1, 0, none⟩) 2 2] 25)).alloc (Obj.cells (datCs (mkD 1 0 ⟨#[]⟩ [] []) none 0 none 0).toArray 25)).alloc (Obj.cells ((.string ⟨#[97]⟩ :: datCs (mkD 3 15000 ⟨#[]⟩ [] []) none 0 none 0) ++ (.string ⟨#[98]⟩ :: datCs jL (some ⟨w.heap.size + 1, 0, none⟩) 1 none 0)).toArray 57) = w3 := by rw [hw3, hw1, hw0]
  refine bodyPost_ret (results_dat rfl _ _ w.heap.size _ _ _ _ _ rfl (by rw [← hW] at Q0; exact Q0)) rfl ?_
  refine ⟨none, 0, some ⟨w.heap.size + 1 + 1, 0, none⟩, 2, rfl, ?_, ?_⟩
  · rw [← hW] at hB; exact hB
  · rw [← hW] at hE; exact hE
/-- The data and the fault that Parse hands back are laid into two new blocks. -/
theorem boxDF (w : World) (k n : Int) (s : ByteArray) (a a' : Value) (e p : Int) : ∃ w2 g f, (w.alloc (Obj.cells #[.int .i64 k, .int .i64 n, .string s, a, a'] 25)).alloc (Obj.cells #[.int .i64 e, .int .i64 p] 32) = w2 ∧ w.heap.size = g ∧ w.heap.size + 1 = f ∧ Below w.heap.size w w2 ∧
    Row w2 g 25 [.int .i64 k, .int .i64 n, .string s, a, a'] ∧ Row w2 f 32 [.int .i64 e, .int .i64 p] := by
  have hR : Row (w.alloc (Obj.cells #[.int .i64 k, .int .i64 n, .string s, a, a'] 25)) w.heap.size 25 [.int .i64 k, .int .i64 n, .string s, a, a'] := Row.new w _ _
  have hF := Row.new (w.alloc (Obj.cells #[.int .i64 k, .int .i64 n, .string s, a, a'] 25)) 32 [.int .i64 e, .int .i64 p]
  rw [show (w.alloc (Obj.cells #[.int .i64 k, .int .i64 n, .string s, a, a'] 25)).heap.size = w.heap.size + 1 by simp] at hF
  exact ⟨_, _, _, rfl, rfl, rfl, ((Below.refl _ _).alloc (Nat.le_refl _) _).alloc (by simp) _, hR.alloc _, hF⟩
section
variable {W : World} {a : Option Addr} {c : Nat} {a' : Option Addr} {c' : Nat}
theorem jfitD (hp : Parts W W.heap.size 3 jD a c a' c') : FitD 16 jD := fit_of_parts 3 16 hp (by rw [show partsF 3 jD = 4 by kernel_rfl]; omega)
theorem jtext_ex (hp : Parts W W.heap.size 3 jD a c a' c') (ht : Tab W) : Calls Tryz.prog 9 #[datV jD a c a' c'] W fun e w' => e = .returned (.tuple #[.string jS1, .int .i64 0]) ∧ Below W.heap.size W w' := by
  have h := jText_run 3 jD a c a' c' W hp (jfitD hp) (by decide) ht
  rw [show jtD false 3 jD = jS1 by kernel_rfl, show checkD jD = 0 by kernel_rfl] at h
  exact h
theorem jindent_ex (hp : Parts W W.heap.size 3 jD a c a' c') (ht : Tab W) : Calls Tryz.prog 11 #[datV jD a c a' c'] W fun e w' => e = .returned (.tuple #[.string jS2, .int .i64 0]) ∧ Below W.heap.size W w' := by
  have h := jIndent_run 3 jD a c a' c' W hp (jfitD hp) (by decide) ht
  rw [show jtD true 3 jD = jS2 by kernel_rfl, show checkD jD = 0 by kernel_rfl] at h
  exact h
theorem jparse_1 : Calls Tryz.prog 13 #[.string ⟨#[49, 46, 53, 48]⟩] W fun e w' => (∃ a c a' c', e = .returned (.tuple #[.agg #[.int .i64 3, .int .i64 15000, .string ⟨#[]⟩, .slice a 0 c, .slice a' 0 c'], .agg #[.int .i64 0, .int .i64 0]]) ∧ Parts w' w'.heap.size 5 (mkD 3 15000 ⟨#[]⟩ [] []) a c a' c') ∧ Below W.heap.size W w' := by
  have h := Parse_run ⟨#[49, 46, 53, 48]⟩ W
  rw [show parseF ⟨#[49, 46, 53, 48]⟩ = (mkD 3 15000 ⟨#[]⟩ [] [], (0, 0)) by kernel_rfl] at h
  refine h.mono ?_
  rintro e w' ⟨a, c, a', c', rfl, hp, hB⟩
  exact ⟨⟨a, c, a', c', rfl, hp.parts⟩, hB⟩
theorem jparse_2 : Calls Tryz.prog 13 #[.string ⟨#[123, 34, 97, 34, 58, 49, 44, 34, 97, 34]⟩] W fun e w' => (∃ a c a' c', e = .returned (.tuple #[.agg #[.int .i64 0, .int .i64 0, .string ⟨#[]⟩, .slice a 0 c, .slice a' 0 c'], .agg #[.int .i64 6, .int .i64 7]])) ∧ Below W.heap.size W w' := by
  have h := Parse_run ⟨#[123, 34, 97, 34, 58, 49, 44, 34, 97, 34]⟩ W
  rw [show parseF ⟨#[123, 34, 97, 34, 58, 49, 44, 34, 97, 34]⟩ = (zeroD, (6, 7)) by kernel_rfl] at h
  refine h.mono ?_
  rintro e w' ⟨a, c, a', c', rfl, hp, hB⟩
  exact ⟨⟨a, c, a', c', rfl⟩, hB⟩
theorem jsame_15 {c c'} (hp : Parts W W.heap.size 5 (mkD 3 15000 ⟨#[]⟩ [] []) a c a' c') : Calls Tryz.prog 15 #[.agg #[.int .i64 3, .int .i64 15000, .string ⟨#[]⟩, .slice a 0 c, .slice a' 0 c'], .agg #[.int .i64 3, .int .i64 15000, .string ⟨#[]⟩, .slice none 0 0, .slice none 0 0]] W fun e w' => e = .returned (.bool true) ∧ Below W.heap.size W w' := by
  have h := same_run 5 (mkD 3 15000 ⟨#[]⟩ [] []) a c a' c' (mkD 3 15000 ⟨#[]⟩ [] []) none 0 none 0 W hp (jleaf_parts _ _ 4 _ _ _)
  rw [show sameF 5 (mkD 3 15000 ⟨#[]⟩ [] []) (mkD 3 15000 ⟨#[]⟩ [] []) = true by kernel_rfl] at h
  exact h
end

set_option maxRecDepth 100000 in
set_option maxHeartbeats 3000000 in
theorem jexample_run (w : World) (ht : Tab w) : Calls Tryz.prog 8 #[] w fun e w' => e = .returned (.bool true) ∧ Below w.heap.size w w' := by
  have HT := hide fun W (h : Below w.heap.size w W) => tab_below ht h
  clear ht
  have g1 : (jS1.toList == [123, 34, 97, 34, 58, 49, 46, 53, 44, 34, 98, 34, 58, 91, 110, 117, 108, 108, 93, 125]) = true := by kernel_rfl
  have g2 : (jS1.toList == (⟨#[123, 34, 97, 34, 58, 49, 46, 53, 44, 34, 98, 34, 58, 91, 110, 117, 108, 108, 93, 125]⟩ : ByteArray).toList) = true := by kernel_rfl
  have g3 : (jS2.toList == [123, 10, 9, 34, 97, 34, 58, 32, 49, 46, 53, 44, 10, 9, 34, 98, 34, 58, 32, 91, 10, 9, 9, 110, 117, 108, 108, 10, 9, 93, 10, 125]) = true := by kernel_rfl
  have g4 : (jS2.toList == (⟨#[123, 10, 9, 34, 97, 34, 58, 32, 49, 46, 53, 44, 10, 9, 34, 98, 34, 58, 32, 91, 10, 9, 9, 110, 117, 108, 108, 10, 9, 93, 10, 125]⟩ : ByteArray).toList) = true := by kernel_rfl
  go_enter Tryz.func8, Tryz.ntmps8
  go_wp2_with fail
  refine (sample_run _).mono ?_; rintro e w1 ⟨a1, c1, a1', c1', rfl, hB1, hP1⟩
  have HB1 := hide hB1; have HP1 := hide hP1
  clear hB1 hP1
  go_wp2_with fail
  refine (jtext_ex HP1.out (HT.out _ HB1.out)).mono ?_; rintro e w2 ⟨rfl, hB2⟩
  have HB2 := hide (HB1.out.trans (hB2.mono HB1.out.size))
  clear hB2 HB1 HP1
  go_wp2_with fail
  refine (sample_run _).mono ?_; rintro e w3 ⟨a1, c1, a1', c1', rfl, hB3, hP3⟩
  have HB3 := hide (HB2.out.trans (hB3.mono HB2.out.size)); have HP3 := hide hP3
  clear hB3 hP3 HB2
  go_wp2_with fail
  refine (jindent_ex HP3.out (HT.out _ HB3.out)).mono ?_; rintro e w4 ⟨rfl, hB4⟩
  have HB4 := hide (HB3.out.trans (hB4.mono HB3.out.size))
  clear hB4 HB3 HP3
  go_wp2_with fail
  refine (jparse_1 (W := _)).mono ?_; rintro e w5 ⟨⟨a5, c5, a5', c5', rfl, hP5⟩, hB5⟩
  have HB5 := hide (HB4.out.trans (hB5.mono HB4.out.size))
  have HP5 := hide hP5
  clear hB5 hP5 HB4
  go_upto_region 4 with fail
  obtain ⟨w6, g6, f6, e1, e2, e3, hB6, hR6, hF6⟩ := boxDF w5 3 15000 ⟨#[]⟩ (.slice a5 0 c5) (.slice a5' 0 c5') 0 0
  rw [e1, e2, show g6 + 1 = f6 by omega]
  have HB6 := hide (HB5.out.trans (hB6.mono HB5.out.size))
  have HP6 := hide (HP5.out.turn (Same.of_below hB6) hB6.size)
  have HR6 := hide (And.intro hR6 hF6)
  clear e1 e2 e3 hB6 hR6 hF6 HB5 HP5
  go_wp2_with fail
  refine (jparse_2 (W := _)).mono ?_; rintro e w7 ⟨⟨a7, c7, a7', c7', rfl⟩, hB7⟩
  have HB7 := hide (HB6.out.trans (hB7.mono HB6.out.size))
  have HP7 := hide (HP6.out.turn (Same.of_below hB7) hB7.size)
  have HR7 := hide (And.intro (HR6.out.1.below hB7) (HR6.out.2.below hB7))
  clear hB7 HR6 HP6 HB6
  go_upto_region 5 with fail
  obtain ⟨w8, g8, f8, e1, e2, e3, hB8, hR8, hF8⟩ := boxDF w7 0 0 ⟨#[]⟩ (.slice a7 0 c7) (.slice a7' 0 c7') 6 7
  rw [e1, e2, show g8 + 1 = f8 by omega]
  have HB8 := hide (HB7.out.trans (hB8.mono HB7.out.size))
  have HP8 := hide (HP7.out.turn (Same.of_below hB8) hB8.size)
  have hRR := HR7.out.1.below hB8
  have hFF := HR7.out.2.below hB8
  clear e1 e2 e3 hB8 hR8 HB7 HP7 HR7
  obtain ⟨z0, z1, z2, z3, z4⟩ := row5 hRR
  have y0 : w8.cell? ⟨f6, 0, none⟩ = some (.int .i64 0) := hFF.cell 0
  have y1 : w8.cell? ⟨f6, 1, none⟩ = some (.int .i64 0) := hFF.cell 1
  have x0 : w8.cell? ⟨f8, 0, none⟩ = some (.int .i64 6) := hF8.cell 0
  have x1 : w8.cell? ⟨f8, 1, none⟩ = some (.int .i64 7) := hF8.cell 1
  clear hRR hFF hF8
  go_wp2_with fail
  refine (jsame_15 HP8.out).mono ?_; rintro e w9 ⟨rfl, hB9⟩
  have HB9 := hide (HB8.out.trans (hB9.mono HB8.out.size))
  go_wp2_with fail
  go_ret
  exact ⟨rfl, HB9.out⟩
end Go.Proofs.YtmmbbndoimleaaaGreatDoor

/- value of the reference's reader. -/
namespace Go.Proofs.YtmmbbndoimleaaaGreatDoor
open Go.RowKit

/-- The two blocks of a call of value. -/
def WSv (w : World) (g g2 g3 : Nat) (D3 : List Value) (W : World) : Prop :=
  (g < w.heap.size ∧ w.heap.size = g2 ∧ g2 < g3 ∧ g3 < W.heap.size) ∧ Px g w W ∧ Row W g2 25 ZV ∧ Row W g3 25 D3
section
variable {w W W' : World} {g g2 g3 : Nat} {D3 : List Value}
theorem WSv.px (h : WSv w g g2 g3 D3 W) (hX : Px g W W') : WSv w g g2 g3 D3 W' := by
  obtain ⟨⟨h1, h2, h3, h4⟩, h5, h6, h7⟩ := h
  exact ⟨⟨h1, h2, h3, Nat.lt_of_lt_of_le h4 hX.size⟩, h5.trans hX, (hX.2 g2 (by omega) (by omega)).trans h6, (hX.2 g3 h4 (by omega)).trans h7⟩
theorem WSv.set5 {x0 x1 x2 x3 x4 : Value} (h : WSv w g g2 g3 [x0, x1, x2, x3, x4] W) (a b c d e : Value) : WSv w g g2 g3 [a, b, c, d, e] (set5 W g3 a b c d e) := by
  obtain ⟨⟨h1, h2, h3, h4⟩, h5, h6, h7⟩ := h
  exact ⟨⟨h1, h2, h3, by rw [set5_size]; exact h4⟩, px_set5 h5 (by omega) _ _ _ _ _, row_far5 h6 (by omega) _ _ _ _ _, row_set5 h7 _ _ _ _ _⟩
end
/-- Behind the switch. -/
def SwR (S : ByteArray) (m q : Nat) (d : Dt) (p : Nat) (f : Flt) : Prop :=
  p ≤ S.size ∧ (f = (0, 0) ∧ (∃ d0, valF S (m + 1) q = .ok (d0, p) ∧ d = clearF (m + 1) d0) ∨ f.1 ≠ 0 ∧ valF S (m + 1) q = .error f)
def CutV (w : World) (g g2 g3 m q : Nat) (S : ByteArray) (W : World) : Prop :=
  ∃ d a c a' c' p f, WSv w g g2 g3 (datCs d a c a' c') W ∧ PZ (g3 + 1) none W (m + 1) d a c a' c' ∧ Rdr W g S p f ∧ SwR S m q d p f
theorem leaf_pz (lo : Nat) (w : World) (m : Nat) (k n : Int) (s : ByteArray) : PZ lo none w (m + 1) (leafD k n s) none 0 none 0 := fun _ _ _ => jleaf_parts _ _ _ _ _ _
theorem clear_leaf {m : Nat} {k n : Int} {s : ByteArray} (hn : k = 2 ∨ k = 3 ∨ n = 0) (hs : k = 4 ∨ s = ⟨#[]⟩) : clearF (m + 1) (leafD k n s) = leafD k n s := by
  unfold clearF
  rw [kD_mk, nD_mk, sD_mk, iD_mk, mD_mk]
  have e1 : (if k = 2 ∨ k = 3 then n else 0) = n := by split <;> omega
  have e2 : (if k = 4 then s else ⟨#[]⟩ : ByteArray) = s := by
    split
    · rfl
    · rcases hs with h | h
      · contradiction
      · exact h.symm
  have e3 : (if k = 5 then ([] : List Dt).map (clearF m) else []) = [] := by split <;> rfl
  have e4 : (if k = 6 then sortK Prod.fst (([] : List (ByteArray × Dt)).map fun x => (x.1, clearF m x.2)) else []) = [] := by split <;> rfl
  rw [e1, e2, e3, e4]
theorem clear_list {m : Nat} (l : List Dt) : clearF (m + 1) (mkD 5 0 ⟨#[]⟩ l []) = mkD 5 0 ⟨#[]⟩ (l.map (clearF m)) [] := by
  rw [clearF, kD_mk, nD_mk, sD_mk, iD_mk, mD_mk]; rfl
theorem clear_struct {m : Nat} (l : List (ByteArray × Dt)) : clearF (m + 1) (mkD 6 0 ⟨#[]⟩ [] l) = mkD 6 0 ⟨#[]⟩ [] (sortK Prod.fst (l.map fun x => (x.1, clearF m x.2))) := by
  rw [clearF, kD_mk, nD_mk, sD_mk, iD_mk, mD_mk]; rfl
theorem rword_err {S : ByteArray} : ∀ {l : List UInt8} {i : Nat} {f : Flt}, wordF S l i = .error f → f.1 ≠ 0
  | [], _, _, h => by cases h
  | c :: l, i, f, h => by
    unfold wordF at h
    split at h
    · exact rword_err h
    · injection h with h
      rw [← h]; show (19 : Int) ≠ 0; decide
/-- What word does, faults and all. -/
theorem rword_both (S W : ByteArray) (g i : Nat) (w : World) (h : Rdr w g S i (0, 0)) (hi : i ≤ S.size) (hS : S.size ≤ 1000000000) (hW : W.size ≤ 1000) (hz : ∀ c ∈ W.data.toList, c.toNat ≠ 0) (hne : W.data.toList ≠ []) :
    Calls Tryz.prog 48 #[.pointer (some ⟨g, 0, none⟩), .string W] w fun e w' => ∃ (p : Nat) (f : Flt), e = .returned (.tuple #[]) ∧ p ≤ S.size ∧ Rdr w' g S p f ∧ Px g w w' ∧ (f = (0, 0) ∧ wordF S W.data.toList i = .ok p ∨ f.1 ≠ 0 ∧ wordF S W.data.toList i = .error f) := by
  refine (rword_run S W g i w h hi hS hW hz).mono ?_
  intro e w' hp
  cases hs : wordF S W.data.toList i with
  | error f =>
    rw [hs] at hp
    obtain ⟨k, hk, he, hr, hx⟩ := hp
    exact ⟨k, f, he, hk, hr, hx, .inr ⟨rword_err hs, rfl⟩⟩
  | ok p =>
    rw [hs] at hp
    obtain ⟨he, hr, hx⟩ := hp
    exact ⟨p, (0, 0), he, word_in hs hz hne, hr, hx, .inl ⟨rfl, rfl⟩⟩
section
variable {S : ByteArray} {m q p : Nat} {f : Flt}
theorem sw_null (hq : nx S q = 110) (hp : p ≤ S.size) (h : f = (0, 0) ∧ wordF S [117, 108, 108] (q + 1) = .ok p ∨ f.1 ≠ 0 ∧ wordF S [117, 108, 108] (q + 1) = .error f) : SwR S m q (leafD 1 0 ⟨#[]⟩) p f := by
  have e : wordF S [110, 117, 108, 108] q = wordF S [117, 108, 108] (q + 1) := by rw [wordF, if_pos (show nx S q = (110 : UInt8).toNat from hq)]
  refine ⟨hp, ?_⟩
  rcases h with ⟨rfl, h⟩ | ⟨hf, h⟩
  · exact .inl ⟨rfl, leafD 1 0 ⟨#[]⟩, by rw [valF, if_pos hq, e, h], (clear_leaf (by omega) (.inr rfl)).symm⟩
  · exact .inr ⟨hf, by rw [valF, if_pos hq, e, h]⟩
theorem sw_true (hq : nx S q = 116) (hp : p ≤ S.size) (h : f = (0, 0) ∧ wordF S [114, 117, 101] (q + 1) = .ok p ∨ f.1 ≠ 0 ∧ wordF S [114, 117, 101] (q + 1) = .error f) : SwR S m q (leafD 2 1 ⟨#[]⟩) p f := by
  have e : wordF S [116, 114, 117, 101] q = wordF S [114, 117, 101] (q + 1) := by rw [wordF, if_pos (show nx S q = (116 : UInt8).toNat from hq)]
  refine ⟨hp, ?_⟩
  rcases h with ⟨rfl, h⟩ | ⟨hf, h⟩
  · exact .inl ⟨rfl, leafD 2 1 ⟨#[]⟩, by rw [valF, if_neg (by omega), if_pos hq, e, h], (clear_leaf (by omega) (.inr rfl)).symm⟩
  · exact .inr ⟨hf, by rw [valF, if_neg (by omega), if_pos hq, e, h]⟩
theorem sw_false (hq : nx S q = 102) (hp : p ≤ S.size) (h : f = (0, 0) ∧ wordF S [97, 108, 115, 101] (q + 1) = .ok p ∨ f.1 ≠ 0 ∧ wordF S [97, 108, 115, 101] (q + 1) = .error f) : SwR S m q (leafD 2 0 ⟨#[]⟩) p f := by
  have e : wordF S [102, 97, 108, 115, 101] q = wordF S [97, 108, 115, 101] (q + 1) := by rw [wordF, if_pos (show nx S q = (102 : UInt8).toNat from hq)]
  refine ⟨hp, ?_⟩
  rcases h with ⟨rfl, h⟩ | ⟨hf, h⟩
  · exact .inl ⟨rfl, leafD 2 0 ⟨#[]⟩, by rw [valF, if_neg (by omega), if_neg (by omega), if_pos hq, e, h], (clear_leaf (by omega) (.inr rfl)).symm⟩
  · exact .inr ⟨hf, by rw [valF, if_neg (by omega), if_neg (by omega), if_pos hq, e, h]⟩
theorem sw_str {T : ByteArray} (hq : nx S q = 34) (hp : p ≤ S.size) (h : f = (0, 0) ∧ strR S (q + 1) ByteArray.empty = .ok (T, p) ∨ f.1 ≠ 0 ∧ strR S (q + 1) ByteArray.empty = .error f) : SwR S m q (leafD 4 0 T) p f := by
  refine ⟨hp, ?_⟩
  rcases h with ⟨rfl, h⟩ | ⟨hf, h⟩
  · exact .inl ⟨rfl, leafD 4 0 T, by rw [valF, if_neg (by omega), if_neg (by omega), if_neg (by omega), if_pos hq, strF_R hq, h], (clear_leaf (by omega) (.inl rfl)).symm⟩
  · exact .inr ⟨hf, by rw [valF, if_neg (by omega), if_neg (by omega), if_neg (by omega), if_pos hq, strF_R hq, h]⟩
theorem sw_num {k n : Int} (hq : nx S q = 45 ∨ digB (nx S q) = true) (hp : p ≤ S.size) (h : f = (0, 0) ∧ k = 3 ∧ numE S q = .ok (n, p) ∨ f.1 ≠ 0 ∧ numE S q = .error f) : SwR S m q (leafD k n ⟨#[]⟩) p f := by
  have hq2 : nx S q = 45 ∨ 48 ≤ nx S q ∧ nx S q ≤ 57 := hq.imp id dig_bounds
  refine ⟨hp, ?_⟩
  rcases h with ⟨rfl, rfl, h⟩ | ⟨hf, h⟩
  · exact .inl ⟨rfl, leafD 3 n ⟨#[]⟩, by rw [valF, if_neg (by omega), if_neg (by omega), if_neg (by omega), if_neg (by omega), if_pos hq, h], (clear_leaf (by omega) (.inr rfl)).symm⟩
  · exact .inr ⟨hf, by rw [valF, if_neg (by omega), if_neg (by omega), if_neg (by omega), if_neg (by omega), if_pos hq, h]⟩
theorem sw_list {d : Dt} (hq : nx S q = 91) (hp : p ≤ S.size) (h : f = (0, 0) ∧ clrL m (sevF S 93 (itemS (valF S m)) [] q) = .ok (d, p) ∨ f.1 ≠ 0 ∧ clrL m (sevF S 93 (itemS (valF S m)) [] q) = .error f) : SwR S m q d p f := by
  refine ⟨hp, ?_⟩
  rw [val_list hq]
  cases hs : sevF S 93 (itemS (valF S m)) [] q with
  | error f' =>
    rw [hs] at h
    rcases h with ⟨_, h⟩ | ⟨hf, h⟩
    · cases h
    · injection h with h
      exact .inr ⟨hf, by rw [h]⟩
  | ok x =>
    obtain ⟨l, j⟩ := x
    rw [hs] at h
    rcases h with ⟨rfl, h⟩ | ⟨_, h⟩
    · injection h with h
      injection h with h1 h2
      exact .inl ⟨rfl, mkD 5 0 ⟨#[]⟩ l [], by rw [h2], by rw [← h1, clear_list]⟩
    · cases h
theorem sw_struct {d : Dt} (hq : nx S q = 123) (hp : p ≤ S.size) (h : f = (0, 0) ∧ clrM m (sevF S 125 (memS S (valF S m)) [] q) = .ok (d, p) ∨ f.1 ≠ 0 ∧ clrM m (sevF S 125 (memS S (valF S m)) [] q) = .error f) : SwR S m q d p f := by
  refine ⟨hp, ?_⟩
  have hv : valF S (m + 1) q = match sevF S 125 (memS S (valF S m)) [] q with
    | .error f => .error f
    | .ok (l, j) => .ok (mkD 6 0 ⟨#[]⟩ [] l, j) := by
    rw [valF, hq, if_neg (by decide), if_neg (by decide), if_neg (by decide), if_neg (by decide), if_neg (by decide), if_neg (by decide), if_pos rfl]
    rfl
  rw [hv]
  cases hs : sevF S 125 (memS S (valF S m)) [] q with
  | error f' =>
    rw [hs] at h
    rcases h with ⟨_, h⟩ | ⟨hf, h⟩
    · cases h
    · injection h with h
      exact .inr ⟨hf, by rw [h]⟩
  | ok x =>
    obtain ⟨l, j⟩ := x
    rw [hs] at h
    rcases h with ⟨rfl, h⟩ | ⟨_, h⟩
    · injection h with h
      injection h with h1 h2
      exact .inl ⟨rfl, mkD 6 0 ⟨#[]⟩ [] l, by rw [h2], by rw [← h1, clear_struct]⟩
    · cases h
theorem sw_none (hp : q ≤ S.size) (h1 : nx S q ≠ 110) (h2 : nx S q ≠ 116) (h3 : nx S q ≠ 102) (h4 : nx S q ≠ 34) (h5 : nx S q ≠ 91) (h6 : nx S q ≠ 123) (h7 : nx S q ≠ 45) (h8 : digB (nx S q) = false) : SwR S m q zeroD q (19, (q : Int)) := by
  refine ⟨hp, .inr ⟨by show (19 : Int) ≠ 0; decide, ?_⟩⟩
  rw [valF, if_neg h1, if_neg h2, if_neg h3, if_neg h4, if_neg (by rw [h8]; simpa using h7), if_neg h5, if_neg h6]
end
/-- The end of value. -/
theorem val_end2 {w W : World} {g g2 g3 m p p' : Nat} {S : ByteArray} {f : Flt} {q : Nat} {d : Dt} {a : Option Addr} {c : Nat} {a' : Option Addr} {c' : Nat} {D : List Value} (h1 : WSv w g g2 g3 D W) (h2 : PZ (g3 + 1) none W (m + 1) d a c a' c') (h3 : Rdr W g S p' f) (h4 : SwR S m q d p f) (hp : p' = blkR S p f) (x0 x1 x2 x3 x4 : Value) :
    VR g S w (m + 1) (clrV (m + 1) S (valF S (m + 1) q)) (.returned (datV d a c a' c')) (set5 W g2 x0 x1 x2 x3 x4) := by
  obtain ⟨⟨k1, k2, k3, k4⟩, k5, k6, k7⟩ := h1
  have hps : p' ≤ S.size := by
    rw [hp]; unfold blkR; split
    · exact run_le _ h4.1
    · exact h4.1
  refine ⟨d, a, c, a', c', p', f, rfl, ?_, hps, rdr_far5 h3 (by omega) _ _ _ _ _, px_set5 k5 (by omega) _ _ _ _ _, ?_⟩
  · exact h2.turn (by rw [set5_size]; exact Nat.le_refl _) fun k j1 _ _ => ⟨set5_heap _ _ _ _ _ _ _ (by omega), by omega, by simp⟩
  · rcases h4.2 with ⟨rfl, d0, hv, rfl⟩ | ⟨hf, hv⟩
    · exact .inl ⟨rfl, by rw [hv, hp]; rfl⟩
    · exact .inr ⟨hf, by rw [hv]; rfl⟩
end Go.Proofs.YtmmbbndoimleaaaGreatDoor
