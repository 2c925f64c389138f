/- insert of the reference; The reference's reader: members, plain; list of the reference's reader. -/
import Derived.Test.YtmmbbndoimleaaaGreatDoorHAM
import Derived.Test.YtmmbbndoimleaaaGreatDoorHAI

/- insert of the reference. -/
namespace Go.Proofs.YtmmbbndoimleaaaGreatDoor
open Go.RowKit

theorem one_own6 (w : World) (t : TypeId) : (w.alloc (.cells #[] t)).ownsRow w.heap.size t 6 (.slice (some ⟨w.heap.size, 0, none⟩) 0 0) 0 [] := World.ownsRow_made w #[] 0 (Nat.le_refl _) (by simp [maxLen]) rfl

set_option maxRecDepth 100000 in
set_option maxHeartbeats 4000000 in
theorem rinsert_run (R : Reads) (b : Nat) (v : Value) (L : List (ByteArray × Dt)) (x : ByteArray × Dt) (a : Option Addr) (c : Nat) (a' : Option Addr) (c' : Nat) (w : World) (hv : OwnM R w b v L) (hx : R x.2 a c a' c') (hL : L.length ≤ 1000000010) (hd : ∀ y ∈ L, y.1 ≠ x.1) :
    Calls Tryz.prog 73 #[v, memV x a c a' c'] w fun e w' => ∃ u, e = .returned u ∧ Below w.heap.size w w' ∧ OwnM R w' w.heap.size u (insK Prod.fst x L) := by
  obtain ⟨A, cap, rfl, h1, h2, hels⟩ := hv.mems
  obtain ⟨xs, ho, hf⟩ := hv
  have hm := maxLen_le h2
  obtain ⟨i1, hi1, hy0, hy1, hy2⟩ := info_parts infoM
  obtain ⟨n, hn⟩ : ∃ n, n = L.length := ⟨_, rfl⟩
  rw [← hn] at ho hL h1 ⊢
  have HE := Lib.hid hels; have HN := Lib.hid hn; have HXS := hide hf; have HOW := hide ho; have HXX := hide hx; have HD := hide hd
  unfold memV memCs datCs
  clear hels hn hf ho hx hd
  go_enter Tryz.func73, Tryz.ntmps73
  go_upto_region 1 with fail
  obtain ⟨w1, g, e1, e2, hB1, hR1⟩ := boxM w x a c a' c'
  rw [e1, e2]
  have HB1 := hide hB1; have HR1 := hide hR1
  clear e1 e2 hB1 hR1
  obtain ⟨c0, c1, c2, c3, c4, c5⟩ := row6 HR1.out
  go_wp2_with fail
  go_loopw [5] (fun iv wr => ∃ i k : Nat, iv = .int .i64 i ∧ i ≤ n ∧ w1.drewN k = wr ∧ Hid (∀ j (h : j < L.length), j < i → ltB x.1 L[j].1 = false)) (fun iv _ => n - (intOf iv).toNat)
  case atStart => exact ⟨0, 0, rfl, Nat.zero_le _, rfl, hide fun j h hj => by omega⟩
  case round =>
    obtain ⟨i, kk, rfl, hi, rfl, hI⟩ := hrel
    by_cases hlt : i < n
    · have hlt' : i < L.length := by rw [← HN.out]; exact hlt
      obtain ⟨ad, rfl, hb, hlab, q, r, q', r', hfive, hpts⟩ := HE.out i _ (List.getElem?_eq_getElem hlt')
      have hne := HD.out _ (List.getElem_mem hlt')
      obtain ⟨Y, hY⟩ : ∃ Y, Y = L[i].1 := ⟨_, rfl⟩
      have hbb : (ad.add (i * 6)).block < w.heap.size := by rw [block_of_add]; exact hb
      have s0 := (HB1.out.cell (p := ad.add (i * 6)) hbb).trans hlab
      rw [← hY] at s0 hne
      have HYY := hide (show ∀ h : i < L.length, L[i].1 = Y from fun _ => hY.symm)
      clear hlab hfive hpts hb hbb
      clear hY
      by_cases hlY : ltB Y x.1 = true
      · have gle : Op.bytesLess Y.toList x.1.toList = true := hlY
        have HI2 := hide (show ∀ j (h : j < L.length), j < i + 1 → ltB x.1 L[j].1 = false from fun j h hj => by
          rcases Nat.lt_or_ge j i with h1 | h1
          · exact hI.out j h h1
          · obtain rfl : j = i := by omega
            rw [HYY.out h]; exact bl_asymm _ _ hlY)
        clear hI hlt' hne hlY
        go_wp2_with fail
        go_quiet (fail)
        go_wp2_with fail
        go_roundw
        case rel => exact ⟨i + 1, kk + nq, by go_num, by omega, by first | trivial | rfl, HI2⟩
        case measure => simp [intOf]; omega
      · have hlY2 : ltB Y x.1 = false := by simpa using hlY
        have gle : Op.bytesLess Y.toList x.1.toList = false := hlY2
        have hlY3 : ltB x.1 Y = true := by
          cases hc : ltB x.1 Y with
          | true => rfl
          | false => exact absurd (ltB_antisymm hlY2 hc) hne
        have HK := hide (show insK Prod.fst x L = L.take i ++ x :: L.drop i from insK_take x L i (by rw [← HN.out]; exact hi) (fun j h hj => hI.out j h hj) (fun h => by rw [HYY.out h]; exact hlY3))
        clear hlY hlY2 hlY3 hne
        go_wp2_with fail
        go_quiet (fail)
        go_upto_region 4 with fail
        obtain ⟨wq, hwq⟩ : ∃ wq, wq = (w1.drewN kk).drewN nq := ⟨_, rfl⟩
        have HBQ := hide (show Below w1.heap.size w1 wq by rw [hwq]; exact below_drewN (below_drewN (Below.refl _ _) _) _)
        rw [← hwq]
        have HNW := hide (own_newsM HOW.out)
        have HXL := hide HOW.out.1
        clear hwq hI c0 c1 c2 c3 c4 c5
        obtain ⟨wd, hwd⟩ : ∃ W, W = wq.drew := ⟨_, rfl⟩
        have hBD : Below w1.heap.size w1 wd := by rw [hwd]; exact HBQ.out.drew
        have HSS := hide fun W (h : Below w1.heap.size w1 W) => row6 (HR1.out.below h)
        have hic : i ≤ cap := by omega
        have hic2 : ¬ cap = i := by omega
        have hic3 : ¬ i = cap := by omega
        refine region_two 11 (fun W => W.cell? ⟨g, 0, none⟩ = some (.string x.1) ∧ W.cell? ⟨g, 1, none⟩ = some (.int .i64 (kD x.2)) ∧ W.cell? ⟨g, 2, none⟩ = some (.int .i64 (nD x.2)) ∧ W.cell? ⟨g, 3, none⟩ = some (.string (sD x.2)) ∧ W.cell? ⟨g, 4, none⟩ = some (.slice a (iD x.2).length c) ∧ W.cell? ⟨g, 5, none⟩ = some (.slice a' (mD x.2).length c')) (by kernel_rfl) (by kernel_rfl) (by rw [← hwd]; exact HSS.out _ hBD) (fun hH => ?_)
        rw [← hwd] at hH ⊢
        clear hwd HBQ
        have hsd := hBD.size
        simp only [List.take_succ_cons, List.take_zero]
        refine takeH (i := 1) (v := ?_) rfl (by kernel_rfl) (by kernel_rfl) (by kernel_rfl) (fun _ _ _ h => h) (Or.inl ⟨by rfl, ?_⟩) hH ?_
        rotate_left
        · (intro w hSw; (try dsimp only at hSw); go_simp; try with_reducible rfl)
        simp only [Act.put, List.setIfInBounds_toArray, List.set_cons_zero, List.set_cons_succ]
        refine takeH (i := 2) (v := ?_) rfl (by kernel_rfl) (by kernel_rfl) (by kernel_rfl) (fun _ _ _ h => h) (Or.inl ⟨by rfl, ?_⟩) hH ?_
        rotate_left
        · (intro w hSw; (try dsimp only at hSw); go_simp; try with_reducible rfl)
        simp only [Act.put, List.setIfInBounds_toArray, List.set_cons_zero, List.set_cons_succ]
        refine takeH (i := 3) (v := ?_) rfl (by kernel_rfl) (by kernel_rfl) (by kernel_rfl) (fun _ _ _ h => h) (Or.inl ⟨by rfl, ?_⟩) hH ?_
        rotate_left
        · (intro w hSw; (try dsimp only at hSw); go_simp; try with_reducible rfl)
        simp only [Act.put, List.setIfInBounds_toArray, List.set_cons_zero, List.set_cons_succ]
        refine takeH (i := 5) (v := ?_) rfl (by kernel_rfl) (by kernel_rfl) (by kernel_rfl) (fun _ _ _ h => h) (Or.inl ⟨by rfl, ?_⟩) hH ?_
        rotate_left
        · (intro w hSw; (try dsimp only at hSw); go_simp; try with_reducible rfl)
        simp only [Act.put, List.setIfInBounds_toArray, List.set_cons_zero, List.set_cons_succ]
        refine takeH (i := 8) (v := ?_) rfl (by kernel_rfl) (by kernel_rfl) (by kernel_rfl) (fun _ _ _ h => h) (Or.inl ⟨by rfl, ?_⟩) hH ?_
        rotate_left
        · (intro w hSw; (try dsimp only at hSw); go_simp; try with_reducible rfl)
        simp only [Act.put, List.setIfInBounds_toArray, List.set_cons_zero, List.set_cons_succ]
        refine takeH (i := 9) (v := ?_) rfl (by kernel_rfl) (by kernel_rfl) (by kernel_rfl) (fun _ _ _ h => h) (Or.inl ⟨by rfl, ?_⟩) hH ?_
        rotate_left
        · (intro w hSw; (try dsimp only at hSw); go_simp; try with_reducible rfl)
        simp only [Act.put, List.setIfInBounds_toArray, List.set_cons_zero, List.set_cons_succ]
        refine takeH (i := 10) (v := ?_) rfl (by kernel_rfl) (by kernel_rfl) (by kernel_rfl) (fun _ _ _ h => h) (Or.inl ⟨by rfl, ?_⟩) hH ?_
        rotate_left
        · (intro w hSw; (try dsimp only at hSw); go_simp; try with_reducible rfl)
        simp only [Act.put, List.setIfInBounds_toArray, List.set_cons_zero, List.set_cons_succ]
        refine twoH (i := 0) (j := 6) rfl rfl (by kernel_rfl) (fun K hK => ?_) (fun K hK => ?_)
        go_simp
        refine hK.out _ _ (HSS.out _ (below_al hBD _)) (fun hH => ?_)
        clear hK K
        have hOA := one_own6 wd 57
        have hBA := below_al hBD (Obj.cells #[] 57)
        obtain ⟨wA, hwA⟩ : ∃ W, W = wd.alloc (Obj.cells #[] 57) := ⟨_, rfl⟩
        obtain ⟨gA, hgA⟩ : ∃ g, g = wd.heap.size := ⟨_, rfl⟩
        rw [← hwA] at hOA hBA ⊢
        rw [← hgA] at hOA ⊢
        have hOA := own_mono hOA (show w1.heap.size ≤ gA by omega)
        have hsA : gA < wA.heap.size := by rw [hwA, hgA]; simp
        have hgw : w1.heap.size ≤ gA := by omega
        clear hwA hgA
        refine twoH (i := 4) (j := 6) rfl rfl (by kernel_rfl) (fun K hK => ?_) (fun K hK => ?_)
        refine step_append_all _ rfl (.tmp 22) (.tmp 25) _ rfl w1.heap.size 57 i1 _ 6 96 Tryz.underlying23 hi1 hy0 hy1 hy2 rfl (by omega) (.slice (some ⟨gA, 0, none⟩) 0 0) 0 [] rfl hOA (some ad) i cap (xs.take (i * 6)) rfl (fun e => by cases e) (by rw [List.length_take, HXL.out]; omega) (fun ad e j u hu => HNW.out.2 _ (HB1.out.trans (hBA.mono HB1.out.size)) ad e j u (take_get hu)) (fun u hu => HXS.out.oneCell u (List.mem_of_mem_take hu)) (by unfold maxLen; omega) (by omega) hBA.size ?_
        intro v5 w5 o1 o2
        have hB5 := hBA.grown o2.out hBA.size (fun k e => by have : gA = k := by simpa [Value.ownBlock] using e
                                                             omega)
        have hO5 : w5.ownsRow w1.heap.size 57 6 v5 i (xs.take (i * 6)) := by simpa using o1.out
        refine hK.out _ _ (HSS.out _ hB5) (fun hH => ?_)
        clear hK K
        refine oneH (i := 6) rfl (by kernel_rfl) (fun K hK => ?_)
        go_simp
        refine hK.out _ _ (HSS.out _ (below_al hB5 _)) (fun hH => ?_)
        clear hK K
        have hN := heap_alloc_new w5 (Obj.cells (.string x.1 :: datCs x.2 a c a' c').toArray 57)
        have hBN := below_al hB5 (Obj.cells (.string x.1 :: datCs x.2 a c a' c').toArray 57)
        obtain ⟨w6, hwN⟩ : ∃ W, W = w5.alloc (Obj.cells (.string x.1 :: datCs x.2 a c a' c').toArray 57) := ⟨_, rfl⟩
        obtain ⟨b6, hb6⟩ : ∃ b, b = w5.heap.size := ⟨_, rfl⟩
        have hwN2 : w5.alloc (Obj.cells #[.string x.1, .int .i64 (kD x.2), .int .i64 (nD x.2), .string (sD x.2), .slice a (iD x.2).length c, .slice a' (mD x.2).length c'] 57) = w6 := hwN.symm
        rw [← hwN] at hN hBN
        rw [hwN2]
        rw [← hb6] at hN ⊢
        have hO6 : w6.ownsRow w1.heap.size 57 6 v5 i (xs.take (i * 6)) := by rw [hwN]; exact hO5.alloc _
        clear hwN hwN2 hb6 o1 o2 hB5 hO5 hOA hBA hsA hgw
        rotate_left
        go_simp
        refine hK.out _ _ (HSS.out _ (below_al hBA _)) (fun hH => ?_)
        clear hK K
        have hN := heap_alloc_new wA (Obj.cells (.string x.1 :: datCs x.2 a c a' c').toArray 57)
        have hBN := below_al hBA (Obj.cells (.string x.1 :: datCs x.2 a c a' c').toArray 57)
        obtain ⟨w4, hwN⟩ : ∃ W, W = wA.alloc (Obj.cells (.string x.1 :: datCs x.2 a c a' c').toArray 57) := ⟨_, rfl⟩
        obtain ⟨b6, hb6⟩ : ∃ b, b = wA.heap.size := ⟨_, rfl⟩
        have hwN2 : wA.alloc (Obj.cells #[.string x.1, .int .i64 (kD x.2), .int .i64 (nD x.2), .string (sD x.2), .slice a (iD x.2).length c, .slice a' (mD x.2).length c'] 57) = w4 := hwN.symm
        rw [← hwN] at hN hBN
        rw [hwN2]
        rw [← hb6] at hN ⊢
        have hOA : w4.ownsRow w1.heap.size 57 6 (.slice (some ⟨gA, 0, none⟩) 0 0) 0 [] := by rw [hwN]; exact hOA.alloc _
        have hBA := hBN
        have hbw : gA ≠ b6 := by omega
        clear hwN hwN2 hb6 hsA
        refine oneH (i := 4) rfl (by kernel_rfl) (fun K hK => ?_)
        refine step_append_all _ rfl (.tmp 22) (.tmp 25) _ rfl w1.heap.size 57 i1 _ 6 96 Tryz.underlying23 hi1 hy0 hy1 hy2 rfl (by omega) (.slice (some ⟨gA, 0, none⟩) 0 0) 0 [] rfl hOA (some ad) i cap (xs.take (i * 6)) rfl (fun e => by cases e) (by rw [List.length_take, HXL.out]; omega) (fun ad e j u hu => HNW.out.2 _ (HB1.out.trans (hBA.mono HB1.out.size)) ad e j u (take_get hu)) (fun u hu => HXS.out.oneCell u (List.mem_of_mem_take hu)) (by unfold maxLen; omega) (by omega) hBA.size ?_
        intro v5 w5 o1 o2
        have hB5 := hBA.grown o2.out hBA.size (fun k e => by have : gA = k := by simpa [Value.ownBlock] using e
                                                             omega)
        have hO5 : w5.ownsRow w1.heap.size 57 6 v5 i (xs.take (i * 6)) := by simpa using o1.out
        refine hK.out _ _ (HSS.out _ hB5) (fun hH => ?_)
        clear hK K
        have hN := (o2.out.block b6 (Array.getElem?_eq_some_iff.1 hN).1 (by simpa [Value.ownBlock] using fun e => hbw e.symm)).trans hN
        have hBN := hB5; have hO6 := hO5
        obtain ⟨w6, rfl⟩ : ∃ W, W = w5 := ⟨_, rfl⟩
        clear o1 o2 hOA hBA hB5 hO5 hbw hgw
        rotate_left
        go_simp
        refine hK.out _ _ (HSS.out _ (below_al hBD _)) (fun hH => ?_)
        clear hK K
        have hN := heap_alloc_new wd (Obj.cells (.string x.1 :: datCs x.2 a c a' c').toArray 57)
        have hBN := below_al hBD (Obj.cells (.string x.1 :: datCs x.2 a c a' c').toArray 57)
        obtain ⟨w3, hwN⟩ : ∃ W, W = wd.alloc (Obj.cells (.string x.1 :: datCs x.2 a c a' c').toArray 57) := ⟨_, rfl⟩
        obtain ⟨b6, hb6⟩ : ∃ b, b = wd.heap.size := ⟨_, rfl⟩
        have hwN2 : wd.alloc (Obj.cells #[.string x.1, .int .i64 (kD x.2), .int .i64 (nD x.2), .string (sD x.2), .slice a (iD x.2).length c, .slice a' (mD x.2).length c'] 57) = w3 := hwN.symm
        rw [← hwN] at hN hBN
        rw [hwN2]
        rw [← hb6] at hN ⊢
        have hs3 : b6 < w3.heap.size := by rw [hwN, hb6]; simp
        have hb6w : w1.heap.size ≤ b6 := by omega
        clear hwN hwN2 hb6
        refine oneH (i := 0) rfl (by kernel_rfl) (fun K hK => ?_)
        go_simp
        refine hK.out _ _ (HSS.out _ (below_al hBN _)) (fun hH => ?_)
        clear hK K
        have hOA := one_own6 w3 57
        have hBA := below_al hBN (Obj.cells #[] 57)
        obtain ⟨w4, hwA⟩ : ∃ W, W = w3.alloc (Obj.cells #[] 57) := ⟨_, rfl⟩
        obtain ⟨gA, hgA⟩ : ∃ g, g = w3.heap.size := ⟨_, rfl⟩
        rw [← hwA] at hOA hBA ⊢
        rw [← hgA] at hOA ⊢
        have hOA := own_mono hOA (show w1.heap.size ≤ gA by omega)
        have hgw : w1.heap.size ≤ gA := by omega
        have hbw : gA ≠ b6 := by omega
        have hN : w4.heap[b6]? = some (Obj.cells (.string x.1 :: datCs x.2 a c a' c').toArray 57) := by rw [hwA]; exact (Below.heap_alloc _ _ _ hs3).trans hN
        clear hwA hgA hs3
        refine oneH (i := 4) rfl (by kernel_rfl) (fun K hK => ?_)
        refine step_append_all _ rfl (.tmp 22) (.tmp 25) _ rfl w1.heap.size 57 i1 _ 6 96 Tryz.underlying23 hi1 hy0 hy1 hy2 rfl (by omega) (.slice (some ⟨gA, 0, none⟩) 0 0) 0 [] rfl hOA (some ad) i cap (xs.take (i * 6)) rfl (fun e => by cases e) (by rw [List.length_take, HXL.out]; omega) (fun ad e j u hu => HNW.out.2 _ (HB1.out.trans (hBA.mono HB1.out.size)) ad e j u (take_get hu)) (fun u hu => HXS.out.oneCell u (List.mem_of_mem_take hu)) (by unfold maxLen; omega) (by omega) hBA.size ?_
        intro v5 w5 o1 o2
        have hB5 := hBA.grown o2.out hBA.size (fun k e => by have : gA = k := by simpa [Value.ownBlock] using e
                                                             omega)
        have hO5 : w5.ownsRow w1.heap.size 57 6 v5 i (xs.take (i * 6)) := by simpa using o1.out
        refine hK.out _ _ (HSS.out _ hB5) (fun hH => ?_)
        clear hK K
        have hN := (o2.out.block b6 (Array.getElem?_eq_some_iff.1 hN).1 (by simpa [Value.ownBlock] using fun e => hbw e.symm)).trans hN
        have hBN := hB5; have hO6 := hO5
        obtain ⟨w6, rfl⟩ : ∃ W, W = w5 := ⟨_, rfl⟩
        clear o1 o2 hOA hBA hB5 hO5 hbw hgw hb6w
        all_goals
          refine oneH (i := 7) rfl (by kernel_rfl) (fun K hK => ?_)
          refine step_append_all _ rfl (.tmp 26) (.tmp 28) _ rfl w1.heap.size 57 i1 _ 6 96 Tryz.underlying23 hi1 hy0 hy1 hy2 rfl (by omega) v5 i (xs.take (i * 6)) rfl hO6 (some ⟨b6, 0, none⟩) 1 1 (.string x.1 :: datCs x.2 a c a' c') rfl (by intro h; cases h) rfl (by intro ad' h; injection h with h; subst h; exact World.news_of_block hN) memCs_one (by unfold maxLen; omega) (by omega) hBN.size ?_
          intro v7 w7 q1 q2
          have HB6 := hide (hBN.grown q2.out hBN.size (fun k e => (hO6.lt k e).1))
          have HO6 := hide q1.out
          refine hK.out _ _ (HSS.out _ HB6.out) (fun hH => ?_)
          clear hK K q1 q2 hO6 hBN hN hH
          refine wpAnyH_done (by kernel_rfl) ?_ _
          unfold TailPost
          simp only [List.drop_succ_cons, List.drop_zero]
          go_wp2_with (at_builtin; refine wpList_append_all _ rfl (.tmp 29) (.tmp 32) _ rfl w1.heap.size 57 i1 _ 6 96 Tryz.underlying23 hi1 hy0 hy1 hy2 rfl (by omega) v7 (i + 1) (xs.take (i * 6) ++ .string x.1 :: datCs x.2 a c a' c') rfl HO6.out (some (ad.add (i * 6))) (n - i) (cap - i) (xs.drop (i * 6)) rfl (fun e => by cases e) (by rw [List.length_drop, HXL.out]; omega) (fun ad' e j u hu => by injection e with e; subst e; rw [add_of_add]; rw [List.getElem?_drop] at hu; exact HNW.out.2 _ (HB1.out.trans (HB6.out.mono HB1.out.size)) ad rfl _ u hu) (fun u hu => HXS.out.oneCell u (List.mem_of_mem_drop hu)) (by unfold maxLen; omega) (by omega) HB6.out.size ?_)
          intro v8 w8 o1 o2
          have HB8 := hide (HB1.out.trans ((HB6.out.grown o2.out HB6.out.size (fun k e => (HO6.out.lt k e).1)).mono HB1.out.size))
          have HO8 := hide o1.out
          clear o1 o2
          go_wp2_with fail
          go_ret
          refine ⟨_, rfl, HB8.out, ?_⟩
          rw [HK.out]
          exact own_join HO8.out HXS.out HXX.out HB1.out.size
    · obtain rfl : i = n := by omega
      have HK := hide (show insK Prod.fst x L = L.take i ++ x :: L.drop i from insK_take x L i (by rw [← HN.out]; exact hi) (fun j h hj => hI.out j h hj) (fun h => by have := HN.out; omega))
      go_wp2_with fail
      go_quiet (fail)
      cases A with
      | none =>
        obtain ⟨h01, rfl⟩ := (own_newsM HOW.out).1 rfl
        subst h01
        go_upto_region 4 with fail
        obtain ⟨wq, hwq⟩ : ∃ wq, wq = (w1.drewN kk).drewN nq := ⟨_, rfl⟩
        have HBQ := hide (show Below w1.heap.size w1 wq by rw [hwq]; exact below_drewN (below_drewN (Below.refl _ _) _) _)
        rw [← hwq]
        have HNW := hide (own_newsM HOW.out)
        have HXL := hide HOW.out.1
        clear hwq hI c0 c1 c2 c3 c4 c5
        obtain ⟨wd, hwd⟩ : ∃ W, W = wq.drew := ⟨_, rfl⟩
        have hBD : Below w1.heap.size w1 wd := by rw [hwd]; exact HBQ.out.drew
        have HSS := hide fun W (h : Below w1.heap.size w1 W) => row6 (HR1.out.below h)
        refine region_two 11 (fun W => W.cell? ⟨g, 0, none⟩ = some (.string x.1) ∧ W.cell? ⟨g, 1, none⟩ = some (.int .i64 (kD x.2)) ∧ W.cell? ⟨g, 2, none⟩ = some (.int .i64 (nD x.2)) ∧ W.cell? ⟨g, 3, none⟩ = some (.string (sD x.2)) ∧ W.cell? ⟨g, 4, none⟩ = some (.slice a (iD x.2).length c) ∧ W.cell? ⟨g, 5, none⟩ = some (.slice a' (mD x.2).length c')) (by kernel_rfl) (by kernel_rfl) (by rw [← hwd]; exact HSS.out _ hBD) (fun hH => ?_)
        rw [← hwd] at hH ⊢
        clear hwd HBQ
        have hsd := hBD.size
        simp only [List.take_succ_cons, List.take_zero]
        refine takeH (i := 1) (v := ?_) rfl (by kernel_rfl) (by kernel_rfl) (by kernel_rfl) (fun _ _ _ h => h) (Or.inl ⟨by rfl, ?_⟩) hH ?_
        rotate_left
        · (intro w hSw; (try dsimp only at hSw); go_simp; try with_reducible rfl)
        simp only [Act.put, List.setIfInBounds_toArray, List.set_cons_zero, List.set_cons_succ]
        refine takeH (i := 2) (v := ?_) rfl (by kernel_rfl) (by kernel_rfl) (by kernel_rfl) (fun _ _ _ h => h) (Or.inl ⟨by rfl, ?_⟩) hH ?_
        rotate_left
        · (intro w hSw; (try dsimp only at hSw); go_simp; try with_reducible rfl)
        simp only [Act.put, List.setIfInBounds_toArray, List.set_cons_zero, List.set_cons_succ]
        refine takeH (i := 3) (v := ?_) rfl (by kernel_rfl) (by kernel_rfl) (by kernel_rfl) (fun _ _ _ h => h) (Or.inl ⟨by rfl, ?_⟩) hH ?_
        rotate_left
        · (intro w hSw; (try dsimp only at hSw); go_simp; try with_reducible rfl)
        simp only [Act.put, List.setIfInBounds_toArray, List.set_cons_zero, List.set_cons_succ]
        refine takeH (i := 5) (v := ?_) rfl (by kernel_rfl) (by kernel_rfl) (by kernel_rfl) (fun _ _ _ h => h) (Or.inl ⟨by rfl, ?_⟩) hH ?_
        rotate_left
        · (intro w hSw; (try dsimp only at hSw); go_simp; try with_reducible rfl)
        simp only [Act.put, List.setIfInBounds_toArray, List.set_cons_zero, List.set_cons_succ]
        refine takeH (i := 8) (v := ?_) rfl (by kernel_rfl) (by kernel_rfl) (by kernel_rfl) (fun _ _ _ h => h) (Or.inl ⟨by rfl, ?_⟩) hH ?_
        rotate_left
        · (intro w hSw; (try dsimp only at hSw); go_simp; try with_reducible rfl)
        simp only [Act.put, List.setIfInBounds_toArray, List.set_cons_zero, List.set_cons_succ]
        refine takeH (i := 9) (v := ?_) rfl (by kernel_rfl) (by kernel_rfl) (by kernel_rfl) (fun _ _ _ h => h) (Or.inl ⟨by rfl, ?_⟩) hH ?_
        rotate_left
        · (intro w hSw; (try dsimp only at hSw); go_simp; try with_reducible rfl)
        simp only [Act.put, List.setIfInBounds_toArray, List.set_cons_zero, List.set_cons_succ]
        refine takeH (i := 10) (v := ?_) rfl (by kernel_rfl) (by kernel_rfl) (by kernel_rfl) (fun _ _ _ h => h) (Or.inl ⟨by rfl, ?_⟩) hH ?_
        rotate_left
        · (intro w hSw; (try dsimp only at hSw); go_simp; try with_reducible rfl)
        simp only [Act.put, List.setIfInBounds_toArray, List.set_cons_zero, List.set_cons_succ]
        refine twoH (i := 0) (j := 6) rfl rfl (by kernel_rfl) (fun K hK => ?_) (fun K hK => ?_)
        go_simp
        refine hK.out _ _ (HSS.out _ (below_al hBD _)) (fun hH => ?_)
        clear hK K
        have hOA := one_own6 wd 57
        have hBA := below_al hBD (Obj.cells #[] 57)
        obtain ⟨wA, hwA⟩ : ∃ W, W = wd.alloc (Obj.cells #[] 57) := ⟨_, rfl⟩
        obtain ⟨gA, hgA⟩ : ∃ g, g = wd.heap.size := ⟨_, rfl⟩
        rw [← hwA] at hOA hBA ⊢
        rw [← hgA] at hOA ⊢
        have hOA := own_mono hOA (show w1.heap.size ≤ gA by omega)
        have hsA : gA < wA.heap.size := by rw [hwA, hgA]; simp
        have hgw : w1.heap.size ≤ gA := by omega
        clear hwA hgA
        refine twoH (i := 4) (j := 6) rfl rfl (by kernel_rfl) (fun K hK => ?_) (fun K hK => ?_)
        refine step_append_all _ rfl (.tmp 22) (.tmp 25) _ rfl w1.heap.size 57 i1 _ 6 96 Tryz.underlying23 hi1 hy0 hy1 hy2 rfl (by omega) (.slice (some ⟨gA, 0, none⟩) 0 0) 0 [] rfl hOA none 0 0 (xs.take (0 * 6)) rfl (fun e => ⟨rfl, rfl⟩) (by rw [List.length_take, HXL.out]; omega) (fun ad e j u hu => HNW.out.2 _ (HB1.out.trans (hBA.mono HB1.out.size)) ad e j u (take_get hu)) (fun u hu => HXS.out.oneCell u (List.mem_of_mem_take hu)) (by unfold maxLen; omega) (by omega) hBA.size ?_
        intro v5 w5 o1 o2
        have hB5 := hBA.grown o2.out hBA.size (fun k e => by have : gA = k := by simpa [Value.ownBlock] using e
                                                             omega)
        have hO5 : w5.ownsRow w1.heap.size 57 6 v5 0 (xs.take (0 * 6)) := by simpa using o1.out
        refine hK.out _ _ (HSS.out _ hB5) (fun hH => ?_)
        clear hK K
        refine oneH (i := 6) rfl (by kernel_rfl) (fun K hK => ?_)
        go_simp
        refine hK.out _ _ (HSS.out _ (below_al hB5 _)) (fun hH => ?_)
        clear hK K
        have hN := heap_alloc_new w5 (Obj.cells (.string x.1 :: datCs x.2 a c a' c').toArray 57)
        have hBN := below_al hB5 (Obj.cells (.string x.1 :: datCs x.2 a c a' c').toArray 57)
        obtain ⟨w6, hwN⟩ : ∃ W, W = w5.alloc (Obj.cells (.string x.1 :: datCs x.2 a c a' c').toArray 57) := ⟨_, rfl⟩
        obtain ⟨b6, hb6⟩ : ∃ b, b = w5.heap.size := ⟨_, rfl⟩
        have hwN2 : w5.alloc (Obj.cells #[.string x.1, .int .i64 (kD x.2), .int .i64 (nD x.2), .string (sD x.2), .slice a (iD x.2).length c, .slice a' (mD x.2).length c'] 57) = w6 := hwN.symm
        rw [← hwN] at hN hBN
        rw [hwN2]
        rw [← hb6] at hN ⊢
        have hO6 : w6.ownsRow w1.heap.size 57 6 v5 0 (xs.take (0 * 6)) := by rw [hwN]; exact hO5.alloc _
        clear hwN hwN2 hb6 o1 o2 hB5 hO5 hOA hBA hsA hgw
        rotate_left
        go_simp
        refine hK.out _ _ (HSS.out _ (below_al hBA _)) (fun hH => ?_)
        clear hK K
        have hN := heap_alloc_new wA (Obj.cells (.string x.1 :: datCs x.2 a c a' c').toArray 57)
        have hBN := below_al hBA (Obj.cells (.string x.1 :: datCs x.2 a c a' c').toArray 57)
        obtain ⟨w4, hwN⟩ : ∃ W, W = wA.alloc (Obj.cells (.string x.1 :: datCs x.2 a c a' c').toArray 57) := ⟨_, rfl⟩
        obtain ⟨b6, hb6⟩ : ∃ b, b = wA.heap.size := ⟨_, rfl⟩
        have hwN2 : wA.alloc (Obj.cells #[.string x.1, .int .i64 (kD x.2), .int .i64 (nD x.2), .string (sD x.2), .slice a (iD x.2).length c, .slice a' (mD x.2).length c'] 57) = w4 := hwN.symm
        rw [← hwN] at hN hBN
        rw [hwN2]
        rw [← hb6] at hN ⊢
        have hOA : w4.ownsRow w1.heap.size 57 6 (.slice (some ⟨gA, 0, none⟩) 0 0) 0 [] := by rw [hwN]; exact hOA.alloc _
        have hBA := hBN
        have hbw : gA ≠ b6 := by omega
        clear hwN hwN2 hb6 hsA
        refine oneH (i := 4) rfl (by kernel_rfl) (fun K hK => ?_)
        refine step_append_all _ rfl (.tmp 22) (.tmp 25) _ rfl w1.heap.size 57 i1 _ 6 96 Tryz.underlying23 hi1 hy0 hy1 hy2 rfl (by omega) (.slice (some ⟨gA, 0, none⟩) 0 0) 0 [] rfl hOA none 0 0 (xs.take (0 * 6)) rfl (fun e => ⟨rfl, rfl⟩) (by rw [List.length_take, HXL.out]; omega) (fun ad e j u hu => HNW.out.2 _ (HB1.out.trans (hBA.mono HB1.out.size)) ad e j u (take_get hu)) (fun u hu => HXS.out.oneCell u (List.mem_of_mem_take hu)) (by unfold maxLen; omega) (by omega) hBA.size ?_
        intro v5 w5 o1 o2
        have hB5 := hBA.grown o2.out hBA.size (fun k e => by have : gA = k := by simpa [Value.ownBlock] using e
                                                             omega)
        have hO5 : w5.ownsRow w1.heap.size 57 6 v5 0 (xs.take (0 * 6)) := by simpa using o1.out
        refine hK.out _ _ (HSS.out _ hB5) (fun hH => ?_)
        clear hK K
        have hN := (o2.out.block b6 (Array.getElem?_eq_some_iff.1 hN).1 (by simpa [Value.ownBlock] using fun e => hbw e.symm)).trans hN
        have hBN := hB5; have hO6 := hO5
        obtain ⟨w6, rfl⟩ : ∃ W, W = w5 := ⟨_, rfl⟩
        clear o1 o2 hOA hBA hB5 hO5 hbw hgw
        rotate_left
        go_simp
        refine hK.out _ _ (HSS.out _ (below_al hBD _)) (fun hH => ?_)
        clear hK K
        have hN := heap_alloc_new wd (Obj.cells (.string x.1 :: datCs x.2 a c a' c').toArray 57)
        have hBN := below_al hBD (Obj.cells (.string x.1 :: datCs x.2 a c a' c').toArray 57)
        obtain ⟨w3, hwN⟩ : ∃ W, W = wd.alloc (Obj.cells (.string x.1 :: datCs x.2 a c a' c').toArray 57) := ⟨_, rfl⟩
        obtain ⟨b6, hb6⟩ : ∃ b, b = wd.heap.size := ⟨_, rfl⟩
        have hwN2 : wd.alloc (Obj.cells #[.string x.1, .int .i64 (kD x.2), .int .i64 (nD x.2), .string (sD x.2), .slice a (iD x.2).length c, .slice a' (mD x.2).length c'] 57) = w3 := hwN.symm
        rw [← hwN] at hN hBN
        rw [hwN2]
        rw [← hb6] at hN ⊢
        have hs3 : b6 < w3.heap.size := by rw [hwN, hb6]; simp
        have hb6w : w1.heap.size ≤ b6 := by omega
        clear hwN hwN2 hb6
        refine oneH (i := 0) rfl (by kernel_rfl) (fun K hK => ?_)
        go_simp
        refine hK.out _ _ (HSS.out _ (below_al hBN _)) (fun hH => ?_)
        clear hK K
        have hOA := one_own6 w3 57
        have hBA := below_al hBN (Obj.cells #[] 57)
        obtain ⟨w4, hwA⟩ : ∃ W, W = w3.alloc (Obj.cells #[] 57) := ⟨_, rfl⟩
        obtain ⟨gA, hgA⟩ : ∃ g, g = w3.heap.size := ⟨_, rfl⟩
        rw [← hwA] at hOA hBA ⊢
        rw [← hgA] at hOA ⊢
        have hOA := own_mono hOA (show w1.heap.size ≤ gA by omega)
        have hgw : w1.heap.size ≤ gA := by omega
        have hbw : gA ≠ b6 := by omega
        have hN : w4.heap[b6]? = some (Obj.cells (.string x.1 :: datCs x.2 a c a' c').toArray 57) := by rw [hwA]; exact (Below.heap_alloc _ _ _ hs3).trans hN
        clear hwA hgA hs3
        refine oneH (i := 4) rfl (by kernel_rfl) (fun K hK => ?_)
        refine step_append_all _ rfl (.tmp 22) (.tmp 25) _ rfl w1.heap.size 57 i1 _ 6 96 Tryz.underlying23 hi1 hy0 hy1 hy2 rfl (by omega) (.slice (some ⟨gA, 0, none⟩) 0 0) 0 [] rfl hOA none 0 0 (xs.take (0 * 6)) rfl (fun e => ⟨rfl, rfl⟩) (by rw [List.length_take, HXL.out]; omega) (fun ad e j u hu => HNW.out.2 _ (HB1.out.trans (hBA.mono HB1.out.size)) ad e j u (take_get hu)) (fun u hu => HXS.out.oneCell u (List.mem_of_mem_take hu)) (by unfold maxLen; omega) (by omega) hBA.size ?_
        intro v5 w5 o1 o2
        have hB5 := hBA.grown o2.out hBA.size (fun k e => by have : gA = k := by simpa [Value.ownBlock] using e
                                                             omega)
        have hO5 : w5.ownsRow w1.heap.size 57 6 v5 0 (xs.take (0 * 6)) := by simpa using o1.out
        refine hK.out _ _ (HSS.out _ hB5) (fun hH => ?_)
        clear hK K
        have hN := (o2.out.block b6 (Array.getElem?_eq_some_iff.1 hN).1 (by simpa [Value.ownBlock] using fun e => hbw e.symm)).trans hN
        have hBN := hB5; have hO6 := hO5
        obtain ⟨w6, rfl⟩ : ∃ W, W = w5 := ⟨_, rfl⟩
        clear o1 o2 hOA hBA hB5 hO5 hbw hgw hb6w
        all_goals
          refine oneH (i := 7) rfl (by kernel_rfl) (fun K hK => ?_)
          refine step_append_all _ rfl (.tmp 26) (.tmp 28) _ rfl w1.heap.size 57 i1 _ 6 96 Tryz.underlying23 hi1 hy0 hy1 hy2 rfl (by omega) v5 0 (xs.take (0 * 6)) rfl hO6 (some ⟨b6, 0, none⟩) 1 1 (.string x.1 :: datCs x.2 a c a' c') rfl (by intro h; cases h) rfl (by intro ad' h; injection h with h; subst h; exact World.news_of_block hN) memCs_one (by unfold maxLen; omega) (by omega) hBN.size ?_
          intro v7 w7 q1 q2
          have HB6 := hide (hBN.grown q2.out hBN.size (fun k e => (hO6.lt k e).1))
          have HO6 := hide q1.out
          refine hK.out _ _ (HSS.out _ HB6.out) (fun hH => ?_)
          clear hK K q1 q2 hO6 hBN hN hH
          refine wpAnyH_done (by kernel_rfl) ?_ _
          unfold TailPost
          simp only [List.drop_succ_cons, List.drop_zero]
          go_wp2_with (at_builtin; refine wpList_append_all _ rfl (.tmp 29) (.tmp 32) _ rfl w1.heap.size 57 i1 _ 6 96 Tryz.underlying23 hi1 hy0 hy1 hy2 rfl (by omega) v7 (0 + 1) (xs.take (0 * 6) ++ .string x.1 :: datCs x.2 a c a' c') rfl HO6.out none 0 0 (xs.drop (0 * 6)) rfl (fun _ => ⟨rfl, rfl⟩) (by rw [List.length_drop, HXL.out]) (fun ad e => by cases e) (fun u hu => HXS.out.oneCell u (List.mem_of_mem_drop hu)) (by unfold maxLen; omega) (by omega) HB6.out.size ?_)
          intro v8 w8 o1 o2
          have HB8 := hide (HB1.out.trans ((HB6.out.grown o2.out HB6.out.size (fun k e => (HO6.out.lt k e).1)).mono HB1.out.size))
          have HO8 := hide o1.out
          clear o1 o2
          go_wp2_with fail
          go_ret
          refine ⟨_, rfl, HB8.out, ?_⟩
          rw [HK.out]
          exact own_join HO8.out HXS.out HXX.out HB1.out.size
      | some ad =>
        by_cases hci : i = cap
        · subst hci
          go_upto_region 4 with fail
          obtain ⟨wq, hwq⟩ : ∃ wq, wq = (w1.drewN kk).drewN nq := ⟨_, rfl⟩
          have HBQ := hide (show Below w1.heap.size w1 wq by rw [hwq]; exact below_drewN (below_drewN (Below.refl _ _) _) _)
          rw [← hwq]
          have HNW := hide (own_newsM HOW.out)
          have HXL := hide HOW.out.1
          clear hwq hI c0 c1 c2 c3 c4 c5
          obtain ⟨wd, hwd⟩ : ∃ W, W = wq.drew := ⟨_, rfl⟩
          have hBD : Below w1.heap.size w1 wd := by rw [hwd]; exact HBQ.out.drew
          have HSS := hide fun W (h : Below w1.heap.size w1 W) => row6 (HR1.out.below h)
          refine region_two 11 (fun W => W.cell? ⟨g, 0, none⟩ = some (.string x.1) ∧ W.cell? ⟨g, 1, none⟩ = some (.int .i64 (kD x.2)) ∧ W.cell? ⟨g, 2, none⟩ = some (.int .i64 (nD x.2)) ∧ W.cell? ⟨g, 3, none⟩ = some (.string (sD x.2)) ∧ W.cell? ⟨g, 4, none⟩ = some (.slice a (iD x.2).length c) ∧ W.cell? ⟨g, 5, none⟩ = some (.slice a' (mD x.2).length c')) (by kernel_rfl) (by kernel_rfl) (by rw [← hwd]; exact HSS.out _ hBD) (fun hH => ?_)
          rw [← hwd] at hH ⊢
          clear hwd HBQ
          have hsd := hBD.size
          simp only [List.take_succ_cons, List.take_zero]
          refine takeH (i := 1) (v := ?_) rfl (by kernel_rfl) (by kernel_rfl) (by kernel_rfl) (fun _ _ _ h => h) (Or.inl ⟨by rfl, ?_⟩) hH ?_
          rotate_left
          · (intro w hSw; (try dsimp only at hSw); go_simp; try with_reducible rfl)
          simp only [Act.put, List.setIfInBounds_toArray, List.set_cons_zero, List.set_cons_succ]
          refine takeH (i := 2) (v := ?_) rfl (by kernel_rfl) (by kernel_rfl) (by kernel_rfl) (fun _ _ _ h => h) (Or.inl ⟨by rfl, ?_⟩) hH ?_
          rotate_left
          · (intro w hSw; (try dsimp only at hSw); go_simp; try with_reducible rfl)
          simp only [Act.put, List.setIfInBounds_toArray, List.set_cons_zero, List.set_cons_succ]
          refine takeH (i := 3) (v := ?_) rfl (by kernel_rfl) (by kernel_rfl) (by kernel_rfl) (fun _ _ _ h => h) (Or.inl ⟨by rfl, ?_⟩) hH ?_
          rotate_left
          · (intro w hSw; (try dsimp only at hSw); go_simp; try with_reducible rfl)
          simp only [Act.put, List.setIfInBounds_toArray, List.set_cons_zero, List.set_cons_succ]
          refine takeH (i := 5) (v := ?_) rfl (by kernel_rfl) (by kernel_rfl) (by kernel_rfl) (fun _ _ _ h => h) (Or.inl ⟨by rfl, ?_⟩) hH ?_
          rotate_left
          · (intro w hSw; (try dsimp only at hSw); go_simp; try with_reducible rfl)
          simp only [Act.put, List.setIfInBounds_toArray, List.set_cons_zero, List.set_cons_succ]
          refine takeH (i := 8) (v := ?_) rfl (by kernel_rfl) (by kernel_rfl) (by kernel_rfl) (fun _ _ _ h => h) (Or.inl ⟨by rfl, ?_⟩) hH ?_
          rotate_left
          · (intro w hSw; (try dsimp only at hSw); go_simp; try with_reducible rfl)
          simp only [Act.put, List.setIfInBounds_toArray, List.set_cons_zero, List.set_cons_succ]
          refine takeH (i := 9) (v := ?_) rfl (by kernel_rfl) (by kernel_rfl) (by kernel_rfl) (fun _ _ _ h => h) (Or.inl ⟨by rfl, ?_⟩) hH ?_
          rotate_left
          · (intro w hSw; (try dsimp only at hSw); go_simp; try with_reducible rfl)
          simp only [Act.put, List.setIfInBounds_toArray, List.set_cons_zero, List.set_cons_succ]
          refine takeH (i := 10) (v := ?_) rfl (by kernel_rfl) (by kernel_rfl) (by kernel_rfl) (fun _ _ _ h => h) (Or.inl ⟨by rfl, ?_⟩) hH ?_
          rotate_left
          · (intro w hSw; (try dsimp only at hSw); go_simp; try with_reducible rfl)
          simp only [Act.put, List.setIfInBounds_toArray, List.set_cons_zero, List.set_cons_succ]
          refine twoH (i := 0) (j := 6) rfl rfl (by kernel_rfl) (fun K hK => ?_) (fun K hK => ?_)
          go_simp
          refine hK.out _ _ (HSS.out _ (below_al hBD _)) (fun hH => ?_)
          clear hK K
          have hOA := one_own6 wd 57
          have hBA := below_al hBD (Obj.cells #[] 57)
          obtain ⟨wA, hwA⟩ : ∃ W, W = wd.alloc (Obj.cells #[] 57) := ⟨_, rfl⟩
          obtain ⟨gA, hgA⟩ : ∃ g, g = wd.heap.size := ⟨_, rfl⟩
          rw [← hwA] at hOA hBA ⊢
          rw [← hgA] at hOA ⊢
          have hOA := own_mono hOA (show w1.heap.size ≤ gA by omega)
          have hsA : gA < wA.heap.size := by rw [hwA, hgA]; simp
          have hgw : w1.heap.size ≤ gA := by omega
          clear hwA hgA
          refine twoH (i := 4) (j := 6) rfl rfl (by kernel_rfl) (fun K hK => ?_) (fun K hK => ?_)
          refine step_append_all _ rfl (.tmp 22) (.tmp 25) _ rfl w1.heap.size 57 i1 _ 6 96 Tryz.underlying23 hi1 hy0 hy1 hy2 rfl (by omega) (.slice (some ⟨gA, 0, none⟩) 0 0) 0 [] rfl hOA (some ad) i i (xs.take (i * 6)) rfl (fun e => by cases e) (by rw [List.length_take, HXL.out]; omega) (fun ad e j u hu => HNW.out.2 _ (HB1.out.trans (hBA.mono HB1.out.size)) ad e j u (take_get hu)) (fun u hu => HXS.out.oneCell u (List.mem_of_mem_take hu)) (by unfold maxLen; omega) (by omega) hBA.size ?_
          intro v5 w5 o1 o2
          have hB5 := hBA.grown o2.out hBA.size (fun k e => by have : gA = k := by simpa [Value.ownBlock] using e
                                                               omega)
          have hO5 : w5.ownsRow w1.heap.size 57 6 v5 i (xs.take (i * 6)) := by simpa using o1.out
          refine hK.out _ _ (HSS.out _ hB5) (fun hH => ?_)
          clear hK K
          refine oneH (i := 6) rfl (by kernel_rfl) (fun K hK => ?_)
          go_simp
          refine hK.out _ _ (HSS.out _ (below_al hB5 _)) (fun hH => ?_)
          clear hK K
          have hN := heap_alloc_new w5 (Obj.cells (.string x.1 :: datCs x.2 a c a' c').toArray 57)
          have hBN := below_al hB5 (Obj.cells (.string x.1 :: datCs x.2 a c a' c').toArray 57)
          obtain ⟨w6, hwN⟩ : ∃ W, W = w5.alloc (Obj.cells (.string x.1 :: datCs x.2 a c a' c').toArray 57) := ⟨_, rfl⟩
          obtain ⟨b6, hb6⟩ : ∃ b, b = w5.heap.size := ⟨_, rfl⟩
          have hwN2 : w5.alloc (Obj.cells #[.string x.1, .int .i64 (kD x.2), .int .i64 (nD x.2), .string (sD x.2), .slice a (iD x.2).length c, .slice a' (mD x.2).length c'] 57) = w6 := hwN.symm
          rw [← hwN] at hN hBN
          rw [hwN2]
          rw [← hb6] at hN ⊢
          have hO6 : w6.ownsRow w1.heap.size 57 6 v5 i (xs.take (i * 6)) := by rw [hwN]; exact hO5.alloc _
          clear hwN hwN2 hb6 o1 o2 hB5 hO5 hOA hBA hsA hgw
          rotate_left
          go_simp
          refine hK.out _ _ (HSS.out _ (below_al hBA _)) (fun hH => ?_)
          clear hK K
          have hN := heap_alloc_new wA (Obj.cells (.string x.1 :: datCs x.2 a c a' c').toArray 57)
          have hBN := below_al hBA (Obj.cells (.string x.1 :: datCs x.2 a c a' c').toArray 57)
          obtain ⟨w4, hwN⟩ : ∃ W, W = wA.alloc (Obj.cells (.string x.1 :: datCs x.2 a c a' c').toArray 57) := ⟨_, rfl⟩
          obtain ⟨b6, hb6⟩ : ∃ b, b = wA.heap.size := ⟨_, rfl⟩
          have hwN2 : wA.alloc (Obj.cells #[.string x.1, .int .i64 (kD x.2), .int .i64 (nD x.2), .string (sD x.2), .slice a (iD x.2).length c, .slice a' (mD x.2).length c'] 57) = w4 := hwN.symm
          rw [← hwN] at hN hBN
          rw [hwN2]
          rw [← hb6] at hN ⊢
          have hOA : w4.ownsRow w1.heap.size 57 6 (.slice (some ⟨gA, 0, none⟩) 0 0) 0 [] := by rw [hwN]; exact hOA.alloc _
          have hBA := hBN
          have hbw : gA ≠ b6 := by omega
          clear hwN hwN2 hb6 hsA
          refine oneH (i := 4) rfl (by kernel_rfl) (fun K hK => ?_)
          refine step_append_all _ rfl (.tmp 22) (.tmp 25) _ rfl w1.heap.size 57 i1 _ 6 96 Tryz.underlying23 hi1 hy0 hy1 hy2 rfl (by omega) (.slice (some ⟨gA, 0, none⟩) 0 0) 0 [] rfl hOA (some ad) i i (xs.take (i * 6)) rfl (fun e => by cases e) (by rw [List.length_take, HXL.out]; omega) (fun ad e j u hu => HNW.out.2 _ (HB1.out.trans (hBA.mono HB1.out.size)) ad e j u (take_get hu)) (fun u hu => HXS.out.oneCell u (List.mem_of_mem_take hu)) (by unfold maxLen; omega) (by omega) hBA.size ?_
          intro v5 w5 o1 o2
          have hB5 := hBA.grown o2.out hBA.size (fun k e => by have : gA = k := by simpa [Value.ownBlock] using e
                                                               omega)
          have hO5 : w5.ownsRow w1.heap.size 57 6 v5 i (xs.take (i * 6)) := by simpa using o1.out
          refine hK.out _ _ (HSS.out _ hB5) (fun hH => ?_)
          clear hK K
          have hN := (o2.out.block b6 (Array.getElem?_eq_some_iff.1 hN).1 (by simpa [Value.ownBlock] using fun e => hbw e.symm)).trans hN
          have hBN := hB5; have hO6 := hO5
          obtain ⟨w6, rfl⟩ : ∃ W, W = w5 := ⟨_, rfl⟩
          clear o1 o2 hOA hBA hB5 hO5 hbw hgw
          rotate_left
          go_simp
          refine hK.out _ _ (HSS.out _ (below_al hBD _)) (fun hH => ?_)
          clear hK K
          have hN := heap_alloc_new wd (Obj.cells (.string x.1 :: datCs x.2 a c a' c').toArray 57)
          have hBN := below_al hBD (Obj.cells (.string x.1 :: datCs x.2 a c a' c').toArray 57)
          obtain ⟨w3, hwN⟩ : ∃ W, W = wd.alloc (Obj.cells (.string x.1 :: datCs x.2 a c a' c').toArray 57) := ⟨_, rfl⟩
          obtain ⟨b6, hb6⟩ : ∃ b, b = wd.heap.size := ⟨_, rfl⟩
          have hwN2 : wd.alloc (Obj.cells #[.string x.1, .int .i64 (kD x.2), .int .i64 (nD x.2), .string (sD x.2), .slice a (iD x.2).length c, .slice a' (mD x.2).length c'] 57) = w3 := hwN.symm
          rw [← hwN] at hN hBN
          rw [hwN2]
          rw [← hb6] at hN ⊢
          have hs3 : b6 < w3.heap.size := by rw [hwN, hb6]; simp
          have hb6w : w1.heap.size ≤ b6 := by omega
          clear hwN hwN2 hb6
          refine oneH (i := 0) rfl (by kernel_rfl) (fun K hK => ?_)
          go_simp
          refine hK.out _ _ (HSS.out _ (below_al hBN _)) (fun hH => ?_)
          clear hK K
          have hOA := one_own6 w3 57
          have hBA := below_al hBN (Obj.cells #[] 57)
          obtain ⟨w4, hwA⟩ : ∃ W, W = w3.alloc (Obj.cells #[] 57) := ⟨_, rfl⟩
          obtain ⟨gA, hgA⟩ : ∃ g, g = w3.heap.size := ⟨_, rfl⟩
          rw [← hwA] at hOA hBA ⊢
          rw [← hgA] at hOA ⊢
          have hOA := own_mono hOA (show w1.heap.size ≤ gA by omega)
          have hgw : w1.heap.size ≤ gA := by omega
          have hbw : gA ≠ b6 := by omega
          have hN : w4.heap[b6]? = some (Obj.cells (.string x.1 :: datCs x.2 a c a' c').toArray 57) := by rw [hwA]; exact (Below.heap_alloc _ _ _ hs3).trans hN
          clear hwA hgA hs3
          refine oneH (i := 4) rfl (by kernel_rfl) (fun K hK => ?_)
          refine step_append_all _ rfl (.tmp 22) (.tmp 25) _ rfl w1.heap.size 57 i1 _ 6 96 Tryz.underlying23 hi1 hy0 hy1 hy2 rfl (by omega) (.slice (some ⟨gA, 0, none⟩) 0 0) 0 [] rfl hOA (some ad) i i (xs.take (i * 6)) rfl (fun e => by cases e) (by rw [List.length_take, HXL.out]; omega) (fun ad e j u hu => HNW.out.2 _ (HB1.out.trans (hBA.mono HB1.out.size)) ad e j u (take_get hu)) (fun u hu => HXS.out.oneCell u (List.mem_of_mem_take hu)) (by unfold maxLen; omega) (by omega) hBA.size ?_
          intro v5 w5 o1 o2
          have hB5 := hBA.grown o2.out hBA.size (fun k e => by have : gA = k := by simpa [Value.ownBlock] using e
                                                               omega)
          have hO5 : w5.ownsRow w1.heap.size 57 6 v5 i (xs.take (i * 6)) := by simpa using o1.out
          refine hK.out _ _ (HSS.out _ hB5) (fun hH => ?_)
          clear hK K
          have hN := (o2.out.block b6 (Array.getElem?_eq_some_iff.1 hN).1 (by simpa [Value.ownBlock] using fun e => hbw e.symm)).trans hN
          have hBN := hB5; have hO6 := hO5
          obtain ⟨w6, rfl⟩ : ∃ W, W = w5 := ⟨_, rfl⟩
          clear o1 o2 hOA hBA hB5 hO5 hbw hgw hb6w
          all_goals
            refine oneH (i := 7) rfl (by kernel_rfl) (fun K hK => ?_)
            refine step_append_all _ rfl (.tmp 26) (.tmp 28) _ rfl w1.heap.size 57 i1 _ 6 96 Tryz.underlying23 hi1 hy0 hy1 hy2 rfl (by omega) v5 i (xs.take (i * 6)) rfl hO6 (some ⟨b6, 0, none⟩) 1 1 (.string x.1 :: datCs x.2 a c a' c') rfl (by intro h; cases h) rfl (by intro ad' h; injection h with h; subst h; exact World.news_of_block hN) memCs_one (by unfold maxLen; omega) (by omega) hBN.size ?_
            intro v7 w7 q1 q2
            have HB6 := hide (hBN.grown q2.out hBN.size (fun k e => (hO6.lt k e).1))
            have HO6 := hide q1.out
            refine hK.out _ _ (HSS.out _ HB6.out) (fun hH => ?_)
            clear hK K q1 q2 hO6 hBN hN hH
            refine wpAnyH_done (by kernel_rfl) ?_ _
            unfold TailPost
            simp only [List.drop_succ_cons, List.drop_zero]
            go_wp2_with (at_builtin; refine wpList_append_all _ rfl (.tmp 29) (.tmp 32) _ rfl w1.heap.size 57 i1 _ 6 96 Tryz.underlying23 hi1 hy0 hy1 hy2 rfl (by omega) v7 (i + 1) (xs.take (i * 6) ++ .string x.1 :: datCs x.2 a c a' c') rfl HO6.out _ _ _ (xs.drop (i * 6)) rfl (fun e => by cases e) (by rw [List.length_drop, HXL.out]; simp) (fun ad e j u hu => by rw [List.getElem?_drop, List.getElem?_eq_none (by rw [HXL.out]; omega)] at hu; cases hu) (fun u hu => HXS.out.oneCell u (List.mem_of_mem_drop hu)) (by unfold maxLen; omega) (by omega) HB6.out.size ?_)
            intro v8 w8 o1 o2
            have HB8 := hide (HB1.out.trans ((HB6.out.grown o2.out HB6.out.size (fun k e => (HO6.out.lt k e).1)).mono HB1.out.size))
            have HO8 := hide o1.out
            clear o1 o2
            go_wp2_with fail
            go_ret
            refine ⟨_, rfl, HB8.out, ?_⟩
            rw [HK.out]
            exact own_join HO8.out HXS.out HXX.out HB1.out.size
        · have hci2 : i < cap := by omega
          go_upto_region 4 with fail
          obtain ⟨wq, hwq⟩ : ∃ wq, wq = (w1.drewN kk).drewN nq := ⟨_, rfl⟩
          have HBQ := hide (show Below w1.heap.size w1 wq by rw [hwq]; exact below_drewN (below_drewN (Below.refl _ _) _) _)
          rw [← hwq]
          have HNW := hide (own_newsM HOW.out)
          have HXL := hide HOW.out.1
          clear hwq hI c0 c1 c2 c3 c4 c5
          obtain ⟨wd, hwd⟩ : ∃ W, W = wq.drew := ⟨_, rfl⟩
          have hBD : Below w1.heap.size w1 wd := by rw [hwd]; exact HBQ.out.drew
          have HSS := hide fun W (h : Below w1.heap.size w1 W) => row6 (HR1.out.below h)
          have hic : i ≤ cap := by omega
          have hic2 : ¬ cap = i := by omega
          refine region_two 11 (fun W => W.cell? ⟨g, 0, none⟩ = some (.string x.1) ∧ W.cell? ⟨g, 1, none⟩ = some (.int .i64 (kD x.2)) ∧ W.cell? ⟨g, 2, none⟩ = some (.int .i64 (nD x.2)) ∧ W.cell? ⟨g, 3, none⟩ = some (.string (sD x.2)) ∧ W.cell? ⟨g, 4, none⟩ = some (.slice a (iD x.2).length c) ∧ W.cell? ⟨g, 5, none⟩ = some (.slice a' (mD x.2).length c')) (by kernel_rfl) (by kernel_rfl) (by rw [← hwd]; exact HSS.out _ hBD) (fun hH => ?_)
          rw [← hwd] at hH ⊢
          clear hwd HBQ
          have hsd := hBD.size
          simp only [List.take_succ_cons, List.take_zero]
          refine takeH (i := 1) (v := ?_) rfl (by kernel_rfl) (by kernel_rfl) (by kernel_rfl) (fun _ _ _ h => h) (Or.inl ⟨by rfl, ?_⟩) hH ?_
          rotate_left
          · (intro w hSw; (try dsimp only at hSw); go_simp; try with_reducible rfl)
          simp only [Act.put, List.setIfInBounds_toArray, List.set_cons_zero, List.set_cons_succ]
          refine takeH (i := 2) (v := ?_) rfl (by kernel_rfl) (by kernel_rfl) (by kernel_rfl) (fun _ _ _ h => h) (Or.inl ⟨by rfl, ?_⟩) hH ?_
          rotate_left
          · (intro w hSw; (try dsimp only at hSw); go_simp; try with_reducible rfl)
          simp only [Act.put, List.setIfInBounds_toArray, List.set_cons_zero, List.set_cons_succ]
          refine takeH (i := 3) (v := ?_) rfl (by kernel_rfl) (by kernel_rfl) (by kernel_rfl) (fun _ _ _ h => h) (Or.inl ⟨by rfl, ?_⟩) hH ?_
          rotate_left
          · (intro w hSw; (try dsimp only at hSw); go_simp; try with_reducible rfl)
          simp only [Act.put, List.setIfInBounds_toArray, List.set_cons_zero, List.set_cons_succ]
          refine takeH (i := 5) (v := ?_) rfl (by kernel_rfl) (by kernel_rfl) (by kernel_rfl) (fun _ _ _ h => h) (Or.inl ⟨by rfl, ?_⟩) hH ?_
          rotate_left
          · (intro w hSw; (try dsimp only at hSw); go_simp; try with_reducible rfl)
          simp only [Act.put, List.setIfInBounds_toArray, List.set_cons_zero, List.set_cons_succ]
          refine takeH (i := 8) (v := ?_) rfl (by kernel_rfl) (by kernel_rfl) (by kernel_rfl) (fun _ _ _ h => h) (Or.inl ⟨by rfl, ?_⟩) hH ?_
          rotate_left
          · (intro w hSw; (try dsimp only at hSw); go_simp; try with_reducible rfl)
          simp only [Act.put, List.setIfInBounds_toArray, List.set_cons_zero, List.set_cons_succ]
          refine takeH (i := 9) (v := ?_) rfl (by kernel_rfl) (by kernel_rfl) (by kernel_rfl) (fun _ _ _ h => h) (Or.inl ⟨by rfl, ?_⟩) hH ?_
          rotate_left
          · (intro w hSw; (try dsimp only at hSw); go_simp; try with_reducible rfl)
          simp only [Act.put, List.setIfInBounds_toArray, List.set_cons_zero, List.set_cons_succ]
          refine takeH (i := 10) (v := ?_) rfl (by kernel_rfl) (by kernel_rfl) (by kernel_rfl) (fun _ _ _ h => h) (Or.inl ⟨by rfl, ?_⟩) hH ?_
          rotate_left
          · (intro w hSw; (try dsimp only at hSw); go_simp; try with_reducible rfl)
          simp only [Act.put, List.setIfInBounds_toArray, List.set_cons_zero, List.set_cons_succ]
          refine twoH (i := 0) (j := 6) rfl rfl (by kernel_rfl) (fun K hK => ?_) (fun K hK => ?_)
          go_simp
          refine hK.out _ _ (HSS.out _ (below_al hBD _)) (fun hH => ?_)
          clear hK K
          have hOA := one_own6 wd 57
          have hBA := below_al hBD (Obj.cells #[] 57)
          obtain ⟨wA, hwA⟩ : ∃ W, W = wd.alloc (Obj.cells #[] 57) := ⟨_, rfl⟩
          obtain ⟨gA, hgA⟩ : ∃ g, g = wd.heap.size := ⟨_, rfl⟩
          rw [← hwA] at hOA hBA ⊢
          rw [← hgA] at hOA ⊢
          have hOA := own_mono hOA (show w1.heap.size ≤ gA by omega)
          have hsA : gA < wA.heap.size := by rw [hwA, hgA]; simp
          have hgw : w1.heap.size ≤ gA := by omega
          clear hwA hgA
          refine twoH (i := 4) (j := 6) rfl rfl (by kernel_rfl) (fun K hK => ?_) (fun K hK => ?_)
          refine step_append_all _ rfl (.tmp 22) (.tmp 25) _ rfl w1.heap.size 57 i1 _ 6 96 Tryz.underlying23 hi1 hy0 hy1 hy2 rfl (by omega) (.slice (some ⟨gA, 0, none⟩) 0 0) 0 [] rfl hOA (some ad) i cap (xs.take (i * 6)) rfl (fun e => by cases e) (by rw [List.length_take, HXL.out]; omega) (fun ad e j u hu => HNW.out.2 _ (HB1.out.trans (hBA.mono HB1.out.size)) ad e j u (take_get hu)) (fun u hu => HXS.out.oneCell u (List.mem_of_mem_take hu)) (by unfold maxLen; omega) (by omega) hBA.size ?_
          intro v5 w5 o1 o2
          have hB5 := hBA.grown o2.out hBA.size (fun k e => by have : gA = k := by simpa [Value.ownBlock] using e
                                                               omega)
          have hO5 : w5.ownsRow w1.heap.size 57 6 v5 i (xs.take (i * 6)) := by simpa using o1.out
          refine hK.out _ _ (HSS.out _ hB5) (fun hH => ?_)
          clear hK K
          refine oneH (i := 6) rfl (by kernel_rfl) (fun K hK => ?_)
          go_simp
          refine hK.out _ _ (HSS.out _ (below_al hB5 _)) (fun hH => ?_)
          clear hK K
          have hN := heap_alloc_new w5 (Obj.cells (.string x.1 :: datCs x.2 a c a' c').toArray 57)
          have hBN := below_al hB5 (Obj.cells (.string x.1 :: datCs x.2 a c a' c').toArray 57)
          obtain ⟨w6, hwN⟩ : ∃ W, W = w5.alloc (Obj.cells (.string x.1 :: datCs x.2 a c a' c').toArray 57) := ⟨_, rfl⟩
          obtain ⟨b6, hb6⟩ : ∃ b, b = w5.heap.size := ⟨_, rfl⟩
          have hwN2 : w5.alloc (Obj.cells #[.string x.1, .int .i64 (kD x.2), .int .i64 (nD x.2), .string (sD x.2), .slice a (iD x.2).length c, .slice a' (mD x.2).length c'] 57) = w6 := hwN.symm
          rw [← hwN] at hN hBN
          rw [hwN2]
          rw [← hb6] at hN ⊢
          have hO6 : w6.ownsRow w1.heap.size 57 6 v5 i (xs.take (i * 6)) := by rw [hwN]; exact hO5.alloc _
          clear hwN hwN2 hb6 o1 o2 hB5 hO5 hOA hBA hsA hgw
          rotate_left
          go_simp
          refine hK.out _ _ (HSS.out _ (below_al hBA _)) (fun hH => ?_)
          clear hK K
          have hN := heap_alloc_new wA (Obj.cells (.string x.1 :: datCs x.2 a c a' c').toArray 57)
          have hBN := below_al hBA (Obj.cells (.string x.1 :: datCs x.2 a c a' c').toArray 57)
          obtain ⟨w4, hwN⟩ : ∃ W, W = wA.alloc (Obj.cells (.string x.1 :: datCs x.2 a c a' c').toArray 57) := ⟨_, rfl⟩
          obtain ⟨b6, hb6⟩ : ∃ b, b = wA.heap.size := ⟨_, rfl⟩
          have hwN2 : wA.alloc (Obj.cells #[.string x.1, .int .i64 (kD x.2), .int .i64 (nD x.2), .string (sD x.2), .slice a (iD x.2).length c, .slice a' (mD x.2).length c'] 57) = w4 := hwN.symm
          rw [← hwN] at hN hBN
          rw [hwN2]
          rw [← hb6] at hN ⊢
          have hOA : w4.ownsRow w1.heap.size 57 6 (.slice (some ⟨gA, 0, none⟩) 0 0) 0 [] := by rw [hwN]; exact hOA.alloc _
          have hBA := hBN
          have hbw : gA ≠ b6 := by omega
          clear hwN hwN2 hb6 hsA
          refine oneH (i := 4) rfl (by kernel_rfl) (fun K hK => ?_)
          refine step_append_all _ rfl (.tmp 22) (.tmp 25) _ rfl w1.heap.size 57 i1 _ 6 96 Tryz.underlying23 hi1 hy0 hy1 hy2 rfl (by omega) (.slice (some ⟨gA, 0, none⟩) 0 0) 0 [] rfl hOA (some ad) i cap (xs.take (i * 6)) rfl (fun e => by cases e) (by rw [List.length_take, HXL.out]; omega) (fun ad e j u hu => HNW.out.2 _ (HB1.out.trans (hBA.mono HB1.out.size)) ad e j u (take_get hu)) (fun u hu => HXS.out.oneCell u (List.mem_of_mem_take hu)) (by unfold maxLen; omega) (by omega) hBA.size ?_
          intro v5 w5 o1 o2
          have hB5 := hBA.grown o2.out hBA.size (fun k e => by have : gA = k := by simpa [Value.ownBlock] using e
                                                               omega)
          have hO5 : w5.ownsRow w1.heap.size 57 6 v5 i (xs.take (i * 6)) := by simpa using o1.out
          refine hK.out _ _ (HSS.out _ hB5) (fun hH => ?_)
          clear hK K
          have hN := (o2.out.block b6 (Array.getElem?_eq_some_iff.1 hN).1 (by simpa [Value.ownBlock] using fun e => hbw e.symm)).trans hN
          have hBN := hB5; have hO6 := hO5
          obtain ⟨w6, rfl⟩ : ∃ W, W = w5 := ⟨_, rfl⟩
          clear o1 o2 hOA hBA hB5 hO5 hbw hgw
          rotate_left
          go_simp
          refine hK.out _ _ (HSS.out _ (below_al hBD _)) (fun hH => ?_)
          clear hK K
          have hN := heap_alloc_new wd (Obj.cells (.string x.1 :: datCs x.2 a c a' c').toArray 57)
          have hBN := below_al hBD (Obj.cells (.string x.1 :: datCs x.2 a c a' c').toArray 57)
          obtain ⟨w3, hwN⟩ : ∃ W, W = wd.alloc (Obj.cells (.string x.1 :: datCs x.2 a c a' c').toArray 57) := ⟨_, rfl⟩
          obtain ⟨b6, hb6⟩ : ∃ b, b = wd.heap.size := ⟨_, rfl⟩
          have hwN2 : wd.alloc (Obj.cells #[.string x.1, .int .i64 (kD x.2), .int .i64 (nD x.2), .string (sD x.2), .slice a (iD x.2).length c, .slice a' (mD x.2).length c'] 57) = w3 := hwN.symm
          rw [← hwN] at hN hBN
          rw [hwN2]
          rw [← hb6] at hN ⊢
          have hs3 : b6 < w3.heap.size := by rw [hwN, hb6]; simp
          have hb6w : w1.heap.size ≤ b6 := by omega
          clear hwN hwN2 hb6
          refine oneH (i := 0) rfl (by kernel_rfl) (fun K hK => ?_)
          go_simp
          refine hK.out _ _ (HSS.out _ (below_al hBN _)) (fun hH => ?_)
          clear hK K
          have hOA := one_own6 w3 57
          have hBA := below_al hBN (Obj.cells #[] 57)
          obtain ⟨w4, hwA⟩ : ∃ W, W = w3.alloc (Obj.cells #[] 57) := ⟨_, rfl⟩
          obtain ⟨gA, hgA⟩ : ∃ g, g = w3.heap.size := ⟨_, rfl⟩
          rw [← hwA] at hOA hBA ⊢
          rw [← hgA] at hOA ⊢
          have hOA := own_mono hOA (show w1.heap.size ≤ gA by omega)
          have hgw : w1.heap.size ≤ gA := by omega
          have hbw : gA ≠ b6 := by omega
          have hN : w4.heap[b6]? = some (Obj.cells (.string x.1 :: datCs x.2 a c a' c').toArray 57) := by rw [hwA]; exact (Below.heap_alloc _ _ _ hs3).trans hN
          clear hwA hgA hs3
          refine oneH (i := 4) rfl (by kernel_rfl) (fun K hK => ?_)
          refine step_append_all _ rfl (.tmp 22) (.tmp 25) _ rfl w1.heap.size 57 i1 _ 6 96 Tryz.underlying23 hi1 hy0 hy1 hy2 rfl (by omega) (.slice (some ⟨gA, 0, none⟩) 0 0) 0 [] rfl hOA (some ad) i cap (xs.take (i * 6)) rfl (fun e => by cases e) (by rw [List.length_take, HXL.out]; omega) (fun ad e j u hu => HNW.out.2 _ (HB1.out.trans (hBA.mono HB1.out.size)) ad e j u (take_get hu)) (fun u hu => HXS.out.oneCell u (List.mem_of_mem_take hu)) (by unfold maxLen; omega) (by omega) hBA.size ?_
          intro v5 w5 o1 o2
          have hB5 := hBA.grown o2.out hBA.size (fun k e => by have : gA = k := by simpa [Value.ownBlock] using e
                                                               omega)
          have hO5 : w5.ownsRow w1.heap.size 57 6 v5 i (xs.take (i * 6)) := by simpa using o1.out
          refine hK.out _ _ (HSS.out _ hB5) (fun hH => ?_)
          clear hK K
          have hN := (o2.out.block b6 (Array.getElem?_eq_some_iff.1 hN).1 (by simpa [Value.ownBlock] using fun e => hbw e.symm)).trans hN
          have hBN := hB5; have hO6 := hO5
          obtain ⟨w6, rfl⟩ : ∃ W, W = w5 := ⟨_, rfl⟩
          clear o1 o2 hOA hBA hB5 hO5 hbw hgw hb6w
          all_goals
            refine oneH (i := 7) rfl (by kernel_rfl) (fun K hK => ?_)
            refine step_append_all _ rfl (.tmp 26) (.tmp 28) _ rfl w1.heap.size 57 i1 _ 6 96 Tryz.underlying23 hi1 hy0 hy1 hy2 rfl (by omega) v5 i (xs.take (i * 6)) rfl hO6 (some ⟨b6, 0, none⟩) 1 1 (.string x.1 :: datCs x.2 a c a' c') rfl (by intro h; cases h) rfl (by intro ad' h; injection h with h; subst h; exact World.news_of_block hN) memCs_one (by unfold maxLen; omega) (by omega) hBN.size ?_
            intro v7 w7 q1 q2
            have HB6 := hide (hBN.grown q2.out hBN.size (fun k e => (hO6.lt k e).1))
            have HO6 := hide q1.out
            refine hK.out _ _ (HSS.out _ HB6.out) (fun hH => ?_)
            clear hK K q1 q2 hO6 hBN hN hH
            refine wpAnyH_done (by kernel_rfl) ?_ _
            unfold TailPost
            simp only [List.drop_succ_cons, List.drop_zero]
            go_wp2_with (at_builtin; refine wpList_append_all _ rfl (.tmp 29) (.tmp 32) _ rfl w1.heap.size 57 i1 _ 6 96 Tryz.underlying23 hi1 hy0 hy1 hy2 rfl (by omega) v7 (i + 1) (xs.take (i * 6) ++ .string x.1 :: datCs x.2 a c a' c') rfl HO6.out _ _ _ (xs.drop (i * 6)) rfl (fun e => by cases e) (by rw [List.length_drop, HXL.out]; simp) (fun ad e j u hu => by rw [List.getElem?_drop, List.getElem?_eq_none (by rw [HXL.out]; omega)] at hu; cases hu) (fun u hu => HXS.out.oneCell u (List.mem_of_mem_drop hu)) (by unfold maxLen; omega) (by omega) HB6.out.size ?_)
            intro v8 w8 o1 o2
            have HB8 := hide (HB1.out.trans ((HB6.out.grown o2.out HB6.out.size (fun k e => (HO6.out.lt k e).1)).mono HB1.out.size))
            have HO8 := hide o1.out
            clear o1 o2
            go_wp2_with fail
            go_ret
            refine ⟨_, rfl, HB8.out, ?_⟩
            rw [HK.out]
            exact own_join HO8.out HXS.out HXX.out HB1.out.size
end Go.Proofs.YtmmbbndoimleaaaGreatDoor

/- The reference's reader: members, plain. -/
namespace Go.Proofs.YtmmbbndoimleaaaGreatDoor
open Go.RowKit

theorem strL_err {S : ByteArray} : ∀ {n i : Nat} {o : ByteArray} {f : Flt}, strL S n i o = .error f → f.1 ≠ 0
  | 0, i, o, f, h => by
    injection h with h
    rw [← h]; show (19 : Int) ≠ 0; decide
  | n + 1, i, o, f, h => by
    unfold strL at h
    split at h
    · cases h
    split at h
    · cases he : escF S i with
      | error f' =>
        rw [he] at h
        injection h with h
        rw [← h]
        exact esc_err he
      | ok p =>
        obtain ⟨c, j⟩ := p
        rw [he] at h
        exact strL_err h
    split at h
    · injection h with h
      rw [← h]; show (19 : Int) ≠ 0; decide
    · exact strL_err h
/-- Whether a label stands. -/
def anyB (T : ByteArray) (L : List (ByteArray × Dt)) : Bool := L.any fun x => x.1.toList == T.toList
/-- The fault behind the search for a label. -/
def dupF (f0 : Flt) (q : Nat) (T : ByteArray) (L : List (ByteArray × Dt)) : Flt := keepF f0 (if anyB T L = true then (6, (q : Int)) else (0, 0))
theorem dup_nil {f0 : Flt} {q : Nat} {T : ByteArray} (h : f0 = (0, 0) ∨ f0.1 ≠ 0) : dupF f0 q T [] = f0 := by
  unfold dupF keepF anyB
  rcases h with rfl | h
  · rfl
  · rw [if_neg h]
theorem dup_yes {f0 : Flt} {q : Nat} {T : ByteArray} {L : List (ByteArray × Dt)} {x : ByteArray × Dt} (h : (x.1.toList == T.toList) = true) : keepF (dupF f0 q T L) (6, (q : Int)) = dupF f0 q T (L ++ [x]) := by
  have e : anyB T (L ++ [x]) = true := by unfold anyB; rw [List.any_append]; simp only [List.any_cons, List.any_nil, h]; simp
  unfold dupF
  rw [e, if_pos rfl]
  unfold keepF
  by_cases hf : f0.1 = 0
  · rw [if_pos hf, if_pos hf]
    split
    · split <;> rfl
    · rfl
  · rw [if_neg hf, if_neg hf]
theorem dup_no {f0 : Flt} {q : Nat} {T : ByteArray} {L : List (ByteArray × Dt)} {x : ByteArray × Dt} (h : (x.1.toList == T.toList) = false) : dupF f0 q T L = dupF f0 q T (L ++ [x]) := by
  have e : anyB T (L ++ [x]) = anyB T L := by unfold anyB; rw [List.any_append]; simp only [List.any_cons, List.any_nil, h]; simp
  unfold dupF
  rw [e]
theorem sort_snoc {l : List (ByteArray × Dt)} {x : ByteArray × Dt} : sortK Prod.fst (l ++ [x]) = insK Prod.fst x (sortK Prod.fst l) := by
  show List.foldl _ [] (l ++ [x]) = _
  rw [List.foldl_append]; rfl
theorem any_sort {m : Nat} {T : ByteArray} {l0 : List (ByteArray × Dt)} : anyB T (sortK Prod.fst (l0.map fun x => (x.1, clearF m x.2))) = (l0.any fun x => x.1.toList == T.toList) := by
  unfold anyB
  rw [Bool.eq_iff_iff, List.any_eq_true, List.any_eq_true]
  constructor
  · rintro ⟨y, hy, h⟩
    have := (sortK_ok (k := Prod.fst) _).2.mem hy
    obtain ⟨z, hz, rfl⟩ := List.mem_map.1 this
    exact ⟨z, hz, h⟩
  · rintro ⟨z, hz, h⟩
    exact ⟨(z.1, clearF m z.2), (sortK_ok (k := Prod.fst) _).2.symm.mem (List.mem_map.2 ⟨z, hz, rfl⟩), h⟩
/-- Where a structure stands. -/
def MR (S : ByteArray) (m : Nat) (r : Except Flt (Dt × Nat)) (i k : Nat) (f : Flt) (L : List (ByteArray × Dt)) : Prop :=
  f = (0, 0) ∧ i < k ∧ L.length ≤ k ∧ (∃ l0 : List (ByteArray × Dt), L = sortK Prod.fst (l0.map fun x => (x.1, clearF m x.2)) ∧ r = clrM m (sevR S 125 (memS S (valF S m)) l0 k)) ∨ f.1 ≠ 0 ∧ L.length ≤ S.size + 1 ∧ r = .error f
theorem mem_ig (S : ByteArray) (n : Nat) : Gain S (memS S (valF S n)) := mem_gain fun _ _ _ h => val_gain n h
theorem strF_R {S : ByteArray} {q : Nat} (h : nx S q = 34) : strF S q = strR S (q + 1) ByteArray.empty := by
  unfold strF
  rw [wordF, if_pos (show nx S q = (34 : UInt8).toNat from h)]
  rfl
theorem mem_quote {S : ByteArray} {m i k : Nat} {r : Except Flt (Dt × Nat)} {L : List (ByteArray × Dt)} (h : MR S m r i k (0, 0) L) (hk : k ≤ S.size) (hq : nx S (blk S k) ≠ 34) : r = .error (19, ((blk S k : Nat) : Int)) := by
  rcases h with ⟨_, _, _, l0, rfl, hr⟩ | ⟨h, _⟩
  · rw [sevR_eq (mem_ig S m) l0 hk] at hr
    have hst : memS S (valF S m) l0 (blk S k) = .error (19, ((blk S k : Nat) : Int)) := by
      unfold memS strF
      rw [wordF, if_neg (show nx S (blk S k) ≠ (34 : UInt8).toNat from hq)]
    rw [hst] at hr
    exact hr
  · exact absurd rfl h
/-- Behind the label. -/
theorem mem_colon {S : ByteArray} {m i k : Nat} {r : Except Flt (Dt × Nat)} {L : List (ByteArray × Dt)} (h : MR S m r i k (0, 0) L) (hk : k ≤ S.size) (hq : nx S (blk S k) = 34) {T : ByteArray} {j : Nat} {f0 : Flt}
    (hs : f0 = (0, 0) ∧ strR S (blk S k + 1) ByteArray.empty = .ok (T, j) ∨ f0.1 ≠ 0 ∧ strR S (blk S k + 1) ByteArray.empty = .error f0) {F : Flt} {j' : Nat} (hF : F = dupF f0 (blk S k) T L) (hj' : j' = blkR S j F) :
    (isB S j' 58 F = false → (keepF F (19, (j' : Int))).1 ≠ 0 ∧ r = .error (keepF F (19, (j' : Int)))) ∧
    (isB S j' 58 F = true → F = (0, 0) ∧ i < j' + 1 ∧ j' + 1 ≤ S.size ∧ (∀ y ∈ L, y.1 ≠ T) ∧ ∀ (d : Dt) (p : Nat) (f : Flt), p ≤ S.size → (f = (0, 0) ∧ clrV m S (valF S m (blk S (j' + 1))) = .ok (d, p) ∨ f.1 ≠ 0 ∧ clrV m S (valF S m (blk S (j' + 1))) = .error f) →
      (isB S p 125 f = true → f = (0, 0) ∧ p + 1 ≤ S.size ∧ r = .ok (mkD 6 0 ⟨#[]⟩ [] (insK Prod.fst (T, d) L), p + 1)) ∧
      (isB S p 125 f = false → isB S p 44 f = true → k < p + 1 ∧ p + 1 ≤ S.size ∧ MR S m r i (p + 1) f (insK Prod.fst (T, d) L)) ∧
      (isB S p 125 f = false → isB S p 44 f = false → MR S m r i p (keepF f (19, (p : Int))) (insK Prod.fst (T, d) L) ∧ (keepF f (19, (p : Int))).1 ≠ 0)) := by
  rcases h with ⟨_, hik, hl, l0, rfl, hr⟩ | ⟨h, _⟩
  rotate_left
  · exact absurd rfl h
  rw [sevR_eq (mem_ig S m) l0 hk] at hr
  unfold dupF at hF
  rw [any_sort] at hF
  have hbad : ∀ f : Flt, f.1 ≠ 0 → ∀ p c, isB S p c f = false := fun f hf p c => by
    unfold isB
    have : (f.1 == 0) = false := by simpa using hf
    rw [this]; rfl
  rcases hs with ⟨rfl, hs⟩ | ⟨hf0, hs⟩
  rotate_left
  · -- the label is at fault
    have e : F = f0 := by rw [hF]; unfold keepF; rw [if_neg hf0]
    have hst : memS S (valF S m) l0 (blk S k) = .error f0 := by
      unfold memS
      rw [strF_R hq, hs]
    rw [hst] at hr
    subst e
    have e2 : keepF F (19, (j' : Int)) = F := if_neg hf0
    refine ⟨fun _ => by rw [e2]; exact ⟨hf0, hr⟩, fun hb => ?_⟩
    rw [hbad F hf0] at hb
    cases hb
  have hF2 : F = if (l0.any fun x => x.1.toList == T.toList) = true then (6, ((blk S k : Nat) : Int)) else (0, 0) := by rw [hF]; unfold keepF; rw [if_pos rfl]
  clear hF
  by_cases hany : (l0.any fun x => x.1.toList == T.toList) = true
  · -- the label stood already
    rw [if_pos hany] at hF2
    have hst : memS S (valF S m) l0 (blk S k) = .error (6, ((blk S k : Nat) : Int)) := by
      unfold memS
      rw [strF_R hq, hs]
      simp only
      rw [if_pos hany]
    rw [hst] at hr
    have hne : F.1 ≠ 0 := by rw [hF2]; show (6 : Int) ≠ 0; decide
    have e2 : keepF F (19, (j' : Int)) = F := if_neg hne
    refine ⟨fun _ => by rw [e2]; exact ⟨hne, by rw [hF2]; exact hr⟩, fun hb => ?_⟩
    rw [hbad F hne] at hb
    cases hb
  rw [if_neg hany] at hF2
  subst hF2
  have hjj : j' = blk S j := by rw [hj']; rfl
  clear hj'
  subst hjj
  have e19 : keepF (0, 0) (19, ((blk S j : Nat) : Int)) = (19, ((blk S j : Nat) : Int)) := if_pos rfl
  have g3 : j ≤ blk S j := run_ge _ _ _
  have gk : k ≤ blk S k := run_ge _ _ _
  have gs := strL_gain hs
  refine ⟨fun hb => ?_, fun hb => ?_⟩
  · have hx : nx S (blk S j) ≠ 58 := by unfold isB at hb; simpa using hb
    have hst : memS S (valF S m) l0 (blk S k) = .error (19, ((blk S j : Nat) : Int)) := by
      unfold memS
      rw [strF_R hq, hs]
      simp only
      rw [if_neg hany, wordF, if_neg (show nx S (blk S j) ≠ (58 : UInt8).toNat from hx)]
    rw [hst] at hr
    rw [e19]
    exact ⟨by show (19 : Int) ≠ 0; decide, hr⟩
  have hx : nx S (blk S j) = 58 := by unfold isB at hb; simpa using hb
  have hin := nx_in (S := S) (i := blk S j) (by rw [hx]; decide)
  refine ⟨rfl, by omega, hin, fun y hy hyT => ?_, fun d p f hp hv => ?_⟩
  · apply hany
    rw [← any_sort (m := m)]
    unfold anyB
    rw [List.any_eq_true]
    exact ⟨y, hy, by rw [hyT]; simp⟩
  have hmem : memS S (valF S m) l0 (blk S k) = match valF S m (blk S (blk S j + 1)) with
      | .error f => .error f
      | .ok (d, q) => .ok (l0 ++ [(T, d)], q) := by
    unfold memS
    rw [strF_R hq, hs]
    simp only
    rw [if_neg hany, wordF, if_pos (show nx S (blk S j) = (58 : UInt8).toNat from hx)]
    rfl
  rw [sortK_length, List.length_map] at hl
  rcases hv with ⟨rfl, hv⟩ | ⟨hf, hv⟩
  · obtain ⟨d0, q, hv0, rfl, rfl⟩ := clrV_ok hv
    obtain ⟨v1, v2⟩ := val_gain m hv0
    have v3 : blk S j + 1 ≤ blk S (blk S j + 1) := run_ge _ _ _
    have v4 : q ≤ blk S q := run_ge _ _ _
    rw [hv0] at hmem
    simp only at hmem
    rw [hmem] at hr
    simp only at hr
    have hins : insK Prod.fst (T, clearF m d0) (sortK Prod.fst (l0.map fun x => (x.1, clearF m x.2))) = sortK Prod.fst ((l0 ++ [(T, d0)]).map fun x => (x.1, clearF m x.2)) := by
      rw [List.map_append, ← sort_snoc]; rfl
    have b1 : ∀ c, isB S (blk S q) c (0, 0) = true ↔ nx S (blk S q) = c := fun c => by unfold isB; simp
    have b1' : ∀ c, isB S (blk S q) c (0, 0) = false ↔ nx S (blk S q) ≠ c := fun c => by unfold isB; simp
    have hlen : (insK Prod.fst (T, clearF m d0) (sortK Prod.fst (l0.map fun x => (x.1, clearF m x.2)))).length = l0.length + 1 := by
      rw [hins, sortK_length, List.length_map, List.length_append, List.length_singleton]
    refine ⟨fun h => ?_, fun h h' => ?_, fun h h' => ?_⟩
    · have hx := (b1 125).1 h
      have hin := nx_in (S := S) (i := blk S q) (by rw [hx]; decide)
      rw [if_pos hx] at hr
      exact ⟨rfl, hin, by rw [hins, hr]; rfl⟩
    · have hx := (b1' 125).1 h
      have hx' := (b1 44).1 h'
      have hin := nx_in (S := S) (i := blk S q) (by rw [hx']; decide)
      rw [if_neg hx, show wordF S [44] (blk S q) = .ok (blk S q + 1) by rw [wordF, if_pos (show nx S (blk S q) = (44 : UInt8).toNat from hx')]; rfl] at hr
      exact ⟨by omega, hin, .inl ⟨rfl, by omega, by omega, l0 ++ [(T, d0)], hins, hr⟩⟩
    · have hx := (b1' 125).1 h
      have hx' := (b1' 44).1 h'
      rw [if_neg hx, show wordF S [44] (blk S q) = .error (19, ((blk S q : Nat) : Int)) by rw [wordF, if_neg (show nx S (blk S q) ≠ (44 : UInt8).toNat from hx')]] at hr
      have e : keepF (0, 0) (19, ((blk S q : Nat) : Int)) = (19, ((blk S q : Nat) : Int)) := if_pos rfl
      rw [e]
      exact ⟨.inr ⟨by show (19 : Int) ≠ 0; decide, by omega, hr⟩, by show (19 : Int) ≠ 0; decide⟩
  · have hv0 := clrV_err hv
    rw [hv0] at hmem
    rw [hmem] at hr
    have hr : r = .error f := hr
    have hlen : (insK Prod.fst (T, d) (sortK Prod.fst (l0.map fun x => (x.1, clearF m x.2)))).length = l0.length + 1 := by
      rw [← sort_snoc, sortK_length, List.length_append, List.length_singleton, List.length_map]
    refine ⟨fun h => (by rw [hbad f hf] at h; cases h), fun _ h => (by rw [hbad f hf] at h; cases h), fun _ _ => ?_⟩
    have e : keepF f (19, (p : Int)) = f := if_neg hf
    rw [e]
    exact ⟨.inr ⟨hf, by omega, hr⟩, hf⟩
end Go.Proofs.YtmmbbndoimleaaaGreatDoor

/- list of the reference's reader. -/
namespace Go.Proofs.YtmmbbndoimleaaaGreatDoor
open Go.RowKit

/-- The state of reading a list. -/
def LI (w : World) (g g2 g3 b0 m : Nat) (l : List Dt) (W : World) : Prop :=
  ∃ u, LSt w g g2 g3 b0 [.int .i64 5, .int .i64 0, .string ⟨#[]⟩, u, .slice none 0 0] W ∧ OwnD (PZ b0 u.ownBlock W m) W b0 u l
theorem LI.px {w wr W : World} {g g2 g3 b0 m : Nat} {l : List Dt} (h : LI w g g2 g3 b0 m l wr) (hX : Px g wr W) : LI w g g2 g3 b0 m l W := by
  obtain ⟨u, h1, h2⟩ := h
  exact ⟨u, h1.px hX, h2.px hX (by have := h1.1; omega)⟩
theorem LI.end_ {w0 wr : World} {S : ByteArray} {g g2 g3 b0 m p : Nat} {f : Flt} {r : Except Flt (Dt × Nat)} {l : List Dt} (h : LI w0 g g2 g3 b0 m l wr) (hR : Rdr wr g S p f) (hp : p ≤ S.size)
    (hr : f = (0, 0) ∧ r = .ok (mkD 5 0 ⟨#[]⟩ l [], p) ∨ f.1 ≠ 0 ∧ r = .error f) :
    ∃ A c, Row wr g2 25 ZV ∧ Row wr g3 25 [.int .i64 5, .int .i64 0, .string ⟨#[]⟩, .slice A l.length c, .slice none 0 0] ∧ ∀ x0 x1 x2 x3 x4, VR g S w0 (m + 1) r (.returned (.agg #[.int .i64 5, .int .i64 0, .string ⟨#[]⟩, .slice A l.length c, .slice none 0 0])) (set5 wr g2 x0 x1 x2 x3 x4) := by
  obtain ⟨u, h1, h2⟩ := h
  obtain ⟨A, c, rfl⟩ := h2.form
  exact ⟨A, c, h1.2.2.2.1, h1.2.2.2.2, fun x0 x1 x2 x3 x4 => lst_end h1 (h2.dz (Nat.le_refl _)) (MZ.nil _ _ _) hR hp hr x0 x1 x2 x3 x4⟩

set_option maxRecDepth 100000 in
set_option maxHeartbeats 4000000 in
theorem rlist_run (S : ByteArray) (g m i : Nat) (w : World) (h : Rdr w g S (i + 1) (0, 0)) (hi : i + 1 ≤ S.size) (hS : S.size ≤ 1000000000)
    (hv : ∀ k W, Rdr W g S k (0, 0) → i < k → k ≤ S.size → Calls Tryz.prog 27 #[.pointer (some ⟨g, 0, none⟩)] W (VR g S W m (clrV m S (valF S m (blk S k))))) :
    Calls Tryz.prog 50 #[.pointer (some ⟨g, 0, none⟩)] w (VR g S w (m + 1) (clrL m (sevF S 93 (itemS (valF S m)) [] i))) := by
  obtain ⟨i0, hi0, hz0, hz1, hz2⟩ := info_parts infoD
  obtain ⟨r, hr⟩ : ∃ r, r = clrL m (sevF S 93 (itemS (valF S m)) [] i) := ⟨_, rfl⟩
  rw [← hr]
  obtain ⟨k0, hk0⟩ : ∃ k, k = blk S (i + 1) := ⟨_, rfl⟩
  have hik : i < k0 := by have : i + 1 ≤ blk S (i + 1) := run_ge _ _ _; omega
  have hks : k0 ≤ S.size := by rw [hk0]; exact run_le _ hi
  unfold sevF at hr
  rw [← hk0] at hr
  have HBL := hide fun V (h : Rdr V g S (i + 1) (0, 0)) => rblanks_run S g (i + 1) (0, 0) V h hS hi
  rw [show blkR S (i + 1) (0, 0) = k0 by rw [hk0]; rfl] at HBL
  have HIS := hide fun c p f V (h : Rdr V g S p f) (hc : c ≠ 0) (hp : p ≤ S.size) => is_run S g p c f V h hc (by omega)
  have HF := hide fun (k : Nat) f V (h : Rdr V g S k f) => rfail_run S g k f 19 (k : Int) V h
  have HV := hide hv
  unfold VR datV datCs at HV
  have HR := Lib.hid hr
  have hgl := h.lt
  have HP := hide h
  clear hr hk0 h hv
  go_enter Tryz.func50, Tryz.ntmps50
  go_upto_region 2 with fail
  obtain ⟨w1, g2, e1, e2, hB1, _, _, _, _, _, hR1⟩ := boxD w 0 0 ⟨#[]⟩ (.slice none 0 0) (.slice none 0 0)
  obtain ⟨w2, g3, e3, e4, hB2, _, _, _, _, _, hR2⟩ := boxD w1 5 0 ⟨#[]⟩ (.slice none 0 0) (.slice none 0 0)
  have e5 : g3 = g2 + 1 := by rw [← e4, ← e1, ← e2]; simp
  have e6 : w2.heap.size = g3 + 1 := by rw [← e3, ← e4]; simp
  obtain ⟨b0, hb0⟩ : ∃ b, b = g2 + 2 := ⟨_, rfl⟩
  have HI0 := hide (show LI w g g2 g3 b0 m [] w2 from ⟨_, ⟨⟨e2, e5, hb0, by omega⟩, by omega, Px.of_below (hB1.trans (hB2.mono hB1.size)), hR1.below hB2, hR2⟩, ⟨[], World.ownsRow_nil _ _ _ _, rfl⟩⟩)
  have HP2 := hide (show Rdr w2 g S (i + 1) (0, 0) from (HP.out.below hB1).below hB2)
  rw [e1, e2, e3, show g2 + 1 = g3 from e5.symm]
  clear e1 e2 e3 e4 e6 hB1 hB2 hR1 hR2 hb0 HP hgl e5
  go_wp2_with fail
  refine (HBL.out _ HP2.out).mono ?_; rintro e w3 ⟨rfl, hr3, hx3⟩
  have HP3 := hide hr3
  have HI3 := hide (HI0.out.px hx3)
  clear hr3 hx3 HP2 HI0 HBL
  obtain ⟨z, hz⟩ : ∃ z, z = isB S k0 93 (0, 0) := ⟨_, rfl⟩
  have HIS1 := hide (HIS.out 93 k0 (0, 0) _ HP3.out (by decide) hks)
  rw [← hz] at HIS1
  cases z with
  | true =>
    have h93 : nx S k0 = 93 := by unfold isB at hz; simpa using hz.symm
    have hin := nx_in (S := S) (i := k0) (by rw [h93]; decide)
    have HE := hide (show r = .ok (mkD 5 0 ⟨#[]⟩ [] [], k0 + 1) by rw [HR.out, if_pos h93]; rfl)
    clear h93 hz HR
    go_wp2_with fail
    refine HIS1.out.mono ?_; rintro e w4 ⟨rfl, hr4, hx4⟩
    obtain ⟨A, c, hz2, hz3, hfin⟩ := (HI3.out.px hx4).end_ (r := r) hr4 hin (.inl ⟨rfl, HE.out⟩)
    have HZ2 := hide hz2; have HFIN := hide hfin
    obtain ⟨t0, t1, t2, t3, t4⟩ := row5 hz3
    obtain ⟨r0, r1, r2, r3, r4⟩ := row5 hz2
    have f0 := hz2.frozen 0
    have f1 := hz2.frozen 1
    have f2 := hz2.frozen 2
    have f3 := hz2.frozen 3
    have f4 := hz2.frozen 4
    clear hr4 hx4 HI3 HP3 HIS1 hz2 hz3 hfin
    go_wp2_with fail
    refine bodyPost_ret (results_dat rfl _ _ g2 _ _ _ _ _ rfl (row_set5 HZ2.out _ _ _ _ _)) rfl ?_
    exact HFIN.out _ _ _ _ _
  | false =>
    have h93 : nx S k0 ≠ 93 := by unfold isB at hz; simpa using hz.symm
    have HLR := hide (show LR S m r i k0 (0, 0) [] from .inl ⟨rfl, hik, Nat.zero_le _, [], rfl, by rw [HR.out, if_neg h93]⟩)
    clear h93 hz HR
    go_wp2_with fail
    refine HIS1.out.mono ?_; rintro e w4 ⟨rfl, hr4, hx4⟩
    have HP4 := hide (show Rdr w4 g S k0 (0, 0) from hr4)
    have HI4 := hide (HI3.out.px hx4)
    clear hr4 hx4 HI3 HP3 HIS1
    go_wp2_with fail
    go_loopw [] (fun wr => ∃ (k : Nat) (f : Flt) (l : List Dt), k ≤ S.size ∧ Hid (LI w g g2 g3 b0 m l wr ∧ Rdr wr g S k f ∧ LR S m r i k f l)) (fun wr => strM S g wr)
    case atStart => exact ⟨k0, (0, 0), [], hks, hide ⟨HI4.out, HP4.out, HLR.out⟩⟩
    case round =>
      clear HI4 HP4 HLR
      obtain ⟨k, f, l, hk, hH⟩ := hrel
      by_cases hf : f.1 = 0
      · have hf0 : f = (0, 0) := by
          rcases hH.out.2.2 with ⟨e, _⟩ | ⟨e, _⟩
          · exact e
          · exact absurd hf e
        subst hf0
        clear hf
        obtain ⟨u, hL, hO⟩ := hH.out.1
        have hik2 : i < k ∧ l.length ≤ k := by
          rcases hH.out.2.2 with ⟨_, e, e2, _⟩ | ⟨e, _⟩
          · exact ⟨e, e2⟩
          · exact absurd rfl e
        obtain ⟨zs, ho, hfl⟩ := hO
        obtain ⟨n, hn⟩ : ∃ n, n = l.length := ⟨_, rfl⟩
        rw [← hn] at ho hik2
        have HST := hide hL; have HO := hide ho; have HFL := hide hfl; have HNN := hide (show l.length = n from hn.symm)
        have HPR := hide hH.out.2.1; have HLR := hide hH.out.2.2
        have HAT := hide (strM_ok hH.out.2.1)
        obtain ⟨c0, c1, c2, c3⟩ := HPR.out.cells
        have HV1 := hide fun V (h : Rdr V g S k (0, 0)) => HV.out k V h hik2.1 hk
        have HCELL := hide fun W (hX : Px g wr W) => (show W.cell? ⟨g3, 3, none⟩ = some u from (HST.out.px hX).2.2.2.2.cell 3)
        have hb0 := HST.out.2.1
        have hgb : g < b0 := by have := HST.out.1; omega
        clear hL ho hfl hn hH
        go_upto_region 6 with fail
        refine region_two 5 (fun W => W.cell? ⟨g3, 3, none⟩ = some u) (by kernel_rfl) (by kernel_rfl) (HCELL.out _ Px.refl.drew) (fun hH => ?_)
        simp only [List.take_succ_cons, List.take_zero]
        refine takeH (i := 0) (v := ?_) rfl (by kernel_rfl) (by kernel_rfl) (by kernel_rfl) (fun _ _ _ h => h) (Or.inl ⟨by rfl, ?_⟩) hH ?_
        rotate_left
        · (intro w hSw; (try dsimp only at hSw); go_simp; try with_reducible rfl)
        simp only [Act.put, List.setIfInBounds_toArray, List.set_cons_zero, List.set_cons_succ]
        refine takeH (i := 1) (v := ?_) rfl (by kernel_rfl) (by kernel_rfl) (by kernel_rfl) (fun _ _ _ h => h) (Or.inl ⟨by rfl, ?_⟩) hH ?_
        rotate_left
        · (intro w hSw; (try dsimp only at hSw); go_simp; try with_reducible rfl)
        simp only [Act.put, List.setIfInBounds_toArray, List.set_cons_zero, List.set_cons_succ]
        refine takeH (i := 2) (v := ?_) rfl (by kernel_rfl) (by kernel_rfl) (by kernel_rfl) (fun _ _ _ h => h) (Or.inl ⟨by rfl, ?_⟩) hH ?_
        rotate_left
        · (intro w hSw; (try dsimp only at hSw); go_simp; try with_reducible rfl)
        simp only [Act.put, List.setIfInBounds_toArray, List.set_cons_zero, List.set_cons_succ]
        refine oneH (i := 3) rfl (by kernel_rfl) (fun K hK => ?_)
        go_simp
        go_at_call 27
        refine (HV1.out wr.drew (HPR.out.drewN 1)).mono ?_; rintro e w4 ⟨d, a, c, a', c', p, f, rfl, hP4, hp4, hR4, hX4, hcase⟩
        have hX5 : Px g wr w4 := Px.refl.drew.trans hX4
        have HR4 := hide hR4; have HX5 := hide hX5; have HP4 := hide (show PZ wr.heap.size none w4 m d a c a' c' from hP4)
        have HSTEP := hide (list_step HLR.out hk hp4 hcase)
        clear hR4 hX4 hP4 hcase HV1
        refine hK.out _ _ (HCELL.out _ HX5.out) (fun hH => ?_)
        clear hK K
        refine oneH (i := 4) rfl (by kernel_rfl) (fun K hK => ?_)
        go_simp
        refine hK.out _ _ (HCELL.out _ (HX5.out.alloc _)) (fun hH => ?_)
        clear hK K
        refine wpAnyH_done (by kernel_rfl) ?_ _
        unfold TailPost
        simp only [List.drop_succ_cons, List.drop_zero]
        have HOA := hide (own_px HO.out HX5.out hgb)
        have hb4 : b0 ≤ w4.heap.size := Nat.le_trans hb0 HX5.out.size
        clear hH c0 c1 c2 c3
        go_wp2_with (at_builtin; refine wpList_append_lies _ rfl (.tmp 17) (.tmp 20) _ rfl b0 25 i0 _ 5 80 Tryz.underlying22 hi0 hz0 hz1 hz2 rfl (by omega) u n zs rfl (HOA.out.alloc _) ⟨w4.heap.size, 0, none⟩ 1 1 (datCs d a c a' c') rfl rfl (World.news_of_block (heap_alloc_new _ _)) datCs_one (by omega) (by unfold maxLen; omega) (by omega) (by simp; omega) _ rfl ?_)
        intro gn cap w5 o1 o2 o3 o4
        obtain ⟨hR5, hEND⟩ := item_end HST.out HO.out HFL.out HNN.out HX5.out HR4.out HP4.out ((Below.refl _ _).alloc (Nat.le_refl _) (.cells (datCs d a c a' c').toArray 25)) o1 o2 (by simpa using o3)
        have z3 : w5.cell? ⟨g3, 3, none⟩ = some u := hR5.cell 3
        have zf := hR5.frozen 3
        have HEND := hide hEND
        clear o1 o2 o3 o4 hR5 hEND HOA HO HFL HST HX5 HR4 HP4 HPR HLR HCELL
        obtain ⟨W6, hW6⟩ : ∃ W, W = w5.setCell ⟨g3, 3, none⟩ (.slice (some ⟨gn, 0, none⟩) (n + 1) cap) := ⟨_, rfl⟩
        obtain ⟨hr6, hl6, ho6⟩ := HEND.out W6 hW6
        have HI6 := hide (show LI w g g2 g3 b0 m (l ++ [d]) W6 from ⟨_, hl6, ho6⟩)
        have HR6 := hide hr6
        go_upto_region 7 with fail
        rw [← hW6]
        clear hW6 hr6 hl6 ho6 HEND z3 zf
        obtain ⟨z, hz⟩ : ∃ z, z = isB S p 93 f := ⟨_, rfl⟩
        have HIS1 := hide (HIS.out 93 p f _ HR6.out (by decide) hp4)
        rw [← hz] at HIS1
        cases z with
        | true =>
          obtain ⟨rfl, hp1, hre⟩ := HSTEP.out.1 hz.symm
          have HE := hide hre
          clear hz hre HSTEP
          go_wp2_with fail
          refine HIS1.out.mono ?_; rintro e w7 ⟨rfl, hr7, hx7⟩
          obtain ⟨A, c, hz2, hz3, hfin⟩ := (HI6.out.px hx7).end_ (r := r) hr7 hp1 (.inl ⟨rfl, HE.out⟩)
          obtain ⟨nl, hnl⟩ : ∃ N, N = (l ++ [d]).length := ⟨_, rfl⟩
          rw [← hnl] at hz3 hfin
          have HZ2 := hide hz2; have HFIN := hide hfin
          obtain ⟨t0, t1, t2, t3, t4⟩ := row5 hz3
          obtain ⟨r0, r1, r2, r3, r4⟩ := row5 hz2
          have f0 := hz2.frozen 0
          have f1 := hz2.frozen 1
          have f2 := hz2.frozen 2
          have f3 := hz2.frozen 3
          have f4 := hz2.frozen 4
          clear hr7 hx7 HI6 HR6 HIS1 hz2 hz3 hfin hnl
          go_wp2_with fail
          refine bodyPost_ret (results_dat rfl _ _ g2 _ _ _ _ _ rfl (row_set5 HZ2.out _ _ _ _ _)) rfl ?_
          exact HFIN.out _ _ _ _ _
        | false =>
          obtain ⟨z2, hz2⟩ : ∃ z, z = isB S p 44 f := ⟨_, rfl⟩
          cases z2 with
          | true =>
            obtain ⟨hkp, hp1, hlr⟩ := HSTEP.out.2.1 hz.symm hz2.symm
            have hf0 : f = (0, 0) := by
              rcases hlr with ⟨e, _⟩ | ⟨e, _⟩
              · exact e
              · unfold isB at hz2
                have : (f.1 == 0) = false := by simpa using e
                rw [this] at hz2; cases hz2
            subst hf0
            have HLR := hide hlr
            have HIS2 := hide fun V (h : Rdr V g S p (0, 0)) => HIS.out 44 p (0, 0) V h (by decide) hp4
            rw [← hz2] at HIS2
            clear hz hz2 hlr HSTEP
            go_wp2_with fail
            refine HIS1.out.mono ?_; rintro e w7 ⟨rfl, hr7, hx7⟩
            have HR7 := hide (show Rdr w7 g S p (0, 0) from hr7); have HI7 := hide (HI6.out.px hx7)
            clear hr7 hx7 HR6 HI6 HIS1
            go_wp2_with fail
            refine (HIS2.out _ HR7.out).mono ?_; rintro e w8 ⟨rfl, hr8, hx8⟩
            have HR8 := hide (show Rdr w8 g S (p + 1) (0, 0) from hr8); have HI8 := hide (HI7.out.px hx8)
            clear hr8 hx8 HR7 HI7 HIS2
            go_wp2_with fail
            go_roundw
            case rel => exact ⟨p + 1, (0, 0), l ++ [d], hp1, hide ⟨HI8.out, HR8.out, HLR.out⟩⟩
            case measure => rw [HAT.out, strM_ok HR8.out]; omega
          | false =>
            obtain ⟨hlr, hne⟩ := HSTEP.out.2.2 hz.symm hz2.symm
            have HLR := hide hlr; have HNE := hide hne
            have HIS2 := hide fun V (h : Rdr V g S p f) => HIS.out 44 p f V h (by decide) hp4
            rw [← hz2] at HIS2
            have HFF := hide fun V (h : Rdr V g S p f) => HF.out p f V h
            clear hz hz2 hlr hne HSTEP
            go_wp2_with fail
            refine HIS1.out.mono ?_; rintro e w7 ⟨rfl, hr7, hx7⟩
            have HR7 := hide (show Rdr w7 g S p f from hr7); have HI7 := hide (HI6.out.px hx7)
            clear hr7 hx7 HR6 HI6 HIS1
            go_wp2_with fail
            refine (HIS2.out _ HR7.out).mono ?_; rintro e w8 ⟨rfl, hr8, hx8⟩
            have HR8 := hide (show Rdr w8 g S p f from hr8); have HI8 := hide (HI7.out.px hx8)
            clear hr8 hx8 HR7 HI7 HIS2
            obtain ⟨c0, c1, c2, c3⟩ := HR8.out.cells
            go_wp2_with fail
            refine (HFF.out _ HR8.out).mono ?_; rintro e w9 ⟨rfl, hr9, hx9⟩
            have HR9 := hide hr9; have HI9 := hide (HI8.out.px hx9)
            clear hr9 hx9 HR8 HI8 HFF c0 c1 c2 c3
            go_wp2_with fail
            go_roundw
            case rel => exact ⟨p, _, l ++ [d], hp4, hide ⟨HI9.out, HR9.out, HLR.out⟩⟩
            case measure => rw [HAT.out, strM_bad HR9.out HNE.out]; omega
      · have HNF := hide hf
        obtain ⟨u, hL, hO⟩ := hH.out.1
        have hd1 : (f.1 == 0) = false := by simpa using hf
        have hre : r = .error f := by
          rcases hH.out.2.2 with ⟨e, _⟩ | ⟨_, _, e⟩
          · rw [e] at hf; exact absurd rfl hf
          · exact e
        obtain ⟨A, c, hz2, hz3, hfin⟩ := hH.out.1.end_ (r := r) hH.out.2.1 hk (.inr ⟨hf, hre⟩)
        have HZ2 := hide hz2; have HFIN := hide hfin
        obtain ⟨t0, t1, t2, t3, t4⟩ := row5 hz3
        obtain ⟨r0, r1, r2, r3, r4⟩ := row5 hz2
        obtain ⟨c0, c1, c2, c3⟩ := hH.out.2.1.cells
        have f0 := hz2.frozen 0
        have f1 := hz2.frozen 1
        have f2 := hz2.frozen 2
        have f3 := hz2.frozen 3
        have f4 := hz2.frozen 4
        clear hL hO hz2 hz3 hfin hH hre hf
        go_wp2_with fail
        refine bodyPost_ret (results_dat rfl _ _ g2 _ _ _ _ _ rfl (row_set5 HZ2.out _ _ _ _ _)) rfl ?_
        exact HFIN.out _ _ _ _ _
end Go.Proofs.YtmmbbndoimleaaaGreatDoor
