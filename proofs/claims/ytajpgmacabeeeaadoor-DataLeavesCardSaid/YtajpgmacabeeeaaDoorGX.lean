/- The law of Leaves. -/
import Derived.Test.YtajpgmacabeeeaaDoorGL
import Derived.Test.YtajpgmacabeeeaaDoorGW

/- The law of Leaves. -/
namespace Go.Proofs.YtajpgmacabeeeaaDoor
open Go.RowKit

theorem OutR.form {w : World} {b : Nat} {u : Value} {ls : List (List Sp)} (h : OutR w b u ls) : ∃ A c, u = .slice A ls.length c := by
  obtain ⟨A, c, e, _⟩ := out_read h
  exact ⟨A, c, e⟩
set_option maxRecDepth 20000 in
set_option maxHeartbeats 2000000 in
theorem Leaves_run2 (m : Nat) (d : Dt) (A : Option Addr) (c : Nat) (A' : Option Addr) (c' : Nat) (w : World) (hp : Parts w w.heap.size m d A c A' c') (ht : Tab w) :
    Calls Tryd.prog 8 #[datV d A c A' c'] w (Fine w) := by
  have HS := hide fun w' (hB : Below w.heap.size w w') => Small_run m d A c A' c' w' (hp.turn (Same.of_below hB) hB.size)
  have HA := hide fun w' (hB : Below w.heap.size w w') => awake_run w' (tab_below ht hB)
  have HV := hide fun (h : smallF m d = true) w' (hB : Below w.heap.size w w') => And.intro (Leaves_run m d A c A' c' w' (hp.turn (Same.of_below hB) hB.size) (by have := small_parts hp h; omega)) (refLeaves_run m d A c A' c' w' (hp.turn (Same.of_below hB) hB.size) (by have := small_parts hp h; omega))
  obtain ⟨LS, hLS⟩ : ∃ l, l = (if checkD d = 0 then leavesF m d [] else []) := ⟨_, rfl⟩
  obtain ⟨b, hb⟩ : ∃ b, b = smallF m d := ⟨_, rfl⟩
  rw [← hb] at HS HV
  rw [← hLS] at HV
  unfold datV datCs at HS HV
  unfold datV datCs
  obtain ⟨k, hk⟩ : ∃ k, k = kD d := ⟨_, rfl⟩
  obtain ⟨n, hn⟩ : ∃ k, k = nD d := ⟨_, rfl⟩
  obtain ⟨s, hs⟩ : ∃ k, k = sD d := ⟨_, rfl⟩
  obtain ⟨x, hx⟩ : ∃ k, k = (iD d).length := ⟨_, rfl⟩
  obtain ⟨y, hy⟩ : ∃ k, k = (mD d).length := ⟨_, rfl⟩
  rw [← hk, ← hn, ← hs, ← hx, ← hy] at HS HV ⊢
  clear hp hb hk hn hs hx hy ht hLS
  go_enter Tryd.func8, Tryd.ntmps8
  go_upto_region 1 with fail
  obtain ⟨w1, g, e1, e2, hBL, c0, c1, c2, c3, c4, hROW⟩ := boxD w k n s (.slice A x c) (.slice A' y c')
  rw [e1, e2]
  have HBL := hide hBL; have HROW := hide hROW
  clear e1 e2 hBL hROW
  go_wp2_with fail
  refine (HS.out _ HBL.out).mono ?_; rintro e w2 ⟨rfl, hB2⟩
  have HB2 := hide (HBL.out.trans (hB2.mono HBL.out.size))
  have HR2 := hide (HROW.out.below hB2)
  clear c0 c1 c2 c3 c4 hB2 HROW HS HBL
  cases b with
  | false =>
    go_wp2_with fail
    refine (HA.out _ HB2.out).mono ?_; rintro e w3 ⟨rfl, hB3⟩
    have HB3 := hide (HB2.out.trans (hB3.mono HB2.out.size))
    clear hB3
    go_wp2_with fail
    go_ret
    exact ⟨rfl, HB3.out⟩
  | true =>
    have HV1 := hide (HV.out (by trivial))
    have HRR := hide fun W (h : Below w2.heap.size w2 W) => row5 (HR2.out.below h)
    have HBW := hide fun W (h : Below w2.heap.size w2 W) => HB2.out.trans (h.mono HB2.out.size)
    clear HV HB2 HR2
    go_upto_region 3 with fail
    refine region_two 4 (fun W => W.cell? ⟨g, 0, none⟩ = some (.int .i64 k) ∧ W.cell? ⟨g, 1, none⟩ = some (.int .i64 n) ∧ W.cell? ⟨g, 2, none⟩ = some (.string s) ∧ W.cell? ⟨g, 3, none⟩ = some (.slice A x c) ∧ W.cell? ⟨g, 4, none⟩ = some (.slice A' y c')) (by kernel_rfl) (by kernel_rfl) (HRR.out _ (Below.refl _ _).drew) (fun hH => ?_)
    simp only [List.take_succ_cons, List.take_zero]
    obtain ⟨wd, hwd⟩ : ∃ W, W = w2.drew := ⟨_, rfl⟩
    have hBD : Below w2.heap.size w2 wd := by rw [hwd]; exact (Below.refl _ _).drew
    rw [← hwd] at hH ⊢
    clear hwd
    refine takeH (i := 0) (v := ?_) rfl (by kernel_rfl) (by kernel_rfl) (by kernel_rfl) (fun _ _ _ h => h) (Or.inl ⟨by rfl, ?_⟩) hH ?_
    rotate_left
    · (intro w hSw; (try dsimp only at hSw); go_simp; try with_reducible rfl)
    simp only [Act.put, List.setIfInBounds_toArray, List.set_cons_zero, List.set_cons_succ]
    refine takeH (i := 2) (v := ?_) rfl (by kernel_rfl) (by kernel_rfl) (by kernel_rfl) (fun _ _ _ h => h) (Or.inl ⟨by rfl, ?_⟩) hH ?_
    rotate_left
    · (intro w hSw; (try dsimp only at hSw); go_simp; try with_reducible rfl)
    simp only [Act.put, List.setIfInBounds_toArray, List.set_cons_zero, List.set_cons_succ]
    refine oneH (i := 1) rfl (by kernel_rfl) (fun K hK => ?_)
    go_simp
    go_at_call 31
    refine (HV1.out _ (HBW.out _ hBD)).1.mono ?_; rintro e w3 ⟨u, rfl, hB3, hO3⟩
    have hB3' := hBD.trans (hB3.mono hBD.size)
    refine hK.out _ _ (HRR.out _ hB3') (fun hH => ?_)
    clear hK K
    refine oneH (i := 3) rfl (by kernel_rfl) (fun K hK => ?_)
    go_simp
    go_at_call 32
    refine (HV1.out _ (HBW.out _ hB3')).2.mono ?_; rintro e w4 ⟨u', rfl, hB4, hO4⟩
    have hB4' := hB3'.trans (hB4.mono hB3'.size)
    refine hK.out _ _ (HRR.out _ hB4') (fun hH => ?_)
    clear hK K
    refine wpAnyH_done (by kernel_rfl) ?_ _
    unfold TailPost
    simp only [List.drop_succ_cons, List.drop_zero]
    obtain ⟨uA, uc, rfl⟩ := hO3.form
    obtain ⟨uA', uc', rfl⟩ := hO4.form
    have HP := hide (Paths_run _ _ LS wd.heap.size w3.heap.size w4 (hO3.below hB4) hO4)
    obtain ⟨N, hN⟩ : ∃ n, n = LS.length := ⟨_, rfl⟩
    rw [← hN] at HP ⊢
    have HB4 := hide (HBW.out _ hB4')
    clear hO3 hO4 hB3 hB4 hB3' hB4' hBD hH HRR HBW HV1 hN
    go_wp2_with fail
    refine HP.out.mono ?_; rintro e w5 ⟨rfl, hB5⟩
    have HB5 := hide (HB4.out.trans (hB5.mono HB4.out.size))
    clear hB5 HP
    go_wp2_with fail
    refine (HA.out _ HB5.out).mono ?_; rintro e w6 ⟨rfl, hB6⟩
    have HB6 := hide (HB5.out.trans (hB6.mono HB5.out.size))
    clear hB6
    go_wp2_with fail
    go_ret
    exact ⟨rfl, HB6.out⟩
end Go.Proofs.YtajpgmacabeeeaaDoor
