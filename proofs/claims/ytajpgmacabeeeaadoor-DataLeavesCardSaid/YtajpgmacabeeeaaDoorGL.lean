/- The laws over one piece of data: the first error; levels and parts. -/
import Derived.Test.YtajpgmacabeeeaaDoorGK
import Derived.Test.YtajpgmacabeeeaaDoorGB

/- The laws over one piece of data: the first error; levels and parts. -/
namespace Go.Proofs.YtajpgmacabeeeaaDoor
open Go.RowKit

/-- A call of a law ends well. -/
def Fine (w : World) (e : Ending) (w' : World) : Prop := e = .returned (.bool true) ∧ Below w.heap.size w w'

set_option maxRecDepth 20000 in
set_option maxHeartbeats 1000000 in
theorem Checks_run (m : Nat) (d : Dt) (A : Option Addr) (c : Nat) (A' : Option Addr) (c' : Nat) (w : World) (hp : Parts w w.heap.size m d A c A' c') (ht : Tab w) :
    Calls Tryd.prog 3 #[datV d A c A' c'] w (Fine w) := by
  have HS := hide fun w' (hB : Below w.heap.size w w') => Small_run m d A c A' c' w' (hp.turn (Same.of_below hB) hB.size)
  have HA := hide fun w' (hB : Below w.heap.size w w') => awake_run w' (tab_below ht hB)
  have HC := hide fun (h : smallF m d = true) w' (hB : Below w.heap.size w w') => Check_run m d A c A' c' w' (hp.turn (Same.of_below hB) hB.size) (fit_of_parts m 16 hp (by have := small_parts hp h; omega))
  have HR := hide fun w' (hB : Below w.heap.size w w') => refCheck_run m d A c A' c' w' (hp.turn (Same.of_below hB) hB.size)
  obtain ⟨z, hz⟩ : ∃ z, z = checkD d := ⟨_, rfl⟩
  obtain ⟨b, hb⟩ : ∃ b, b = smallF m d := ⟨_, rfl⟩
  rw [← hz] at HC HR
  rw [← hb] at HC HS
  unfold datV datCs at HS HC HR
  unfold datV datCs
  obtain ⟨k, hk⟩ : ∃ k, k = kD d := ⟨_, rfl⟩
  obtain ⟨n, hn⟩ : ∃ k, k = nD d := ⟨_, rfl⟩
  obtain ⟨s, hs⟩ : ∃ k, k = sD d := ⟨_, rfl⟩
  obtain ⟨x, hx⟩ : ∃ k, k = (iD d).length := ⟨_, rfl⟩
  obtain ⟨y, hy⟩ : ∃ k, k = (mD d).length := ⟨_, rfl⟩
  rw [← hk, ← hn, ← hs, ← hx, ← hy] at HS HC HR ⊢
  clear hp hz hb hk hn hs hx hy ht
  go_enter Tryd.func3, Tryd.ntmps3
  go_upto_region 1 with fail
  obtain ⟨w1, g, e1, e2, hBL, c0, c1, c2, c3, c4, hROW⟩ := boxD w k n s (.slice A x c) (.slice A' y c')
  rw [e1, e2]
  have HBL := hide hBL; have HROW := hide hROW
  clear e1 e2 hBL hROW
  go_wp2_with fail
  refine (HS.out _ HBL.out).mono ?_; rintro e w2 ⟨rfl, hB2⟩
  have HB2 := hide (HBL.out.trans (hB2.mono HBL.out.size))
  have HR2 := hide (HROW.out.below hB2)
  clear c0 c1 c2 c3 c4 hB2 HROW HS HBL
  cases b with
  | false =>
    go_wp2_with fail
    refine (HA.out _ HB2.out).mono ?_; rintro e w3 ⟨rfl, hB3⟩
    have HB3 := hide (HB2.out.trans (hB3.mono HB2.out.size))
    clear hB3
    go_wp2_with fail
    go_ret
    exact ⟨rfl, HB3.out⟩
  | true =>
    have HC1 := hide (HC.out rfl)
    clear HC
    have HRR := hide fun W (h : Below w2.heap.size w2 W) => row5 (HR2.out.below h)
    have HBW := hide fun W (h : Below w2.heap.size w2 W) => HB2.out.trans (h.mono HB2.out.size)
    obtain ⟨z0, z1, z2, z3, z4⟩ := HRR.out _ (Below.refl _ _)
    have hBB := (Below.refl w2.heap.size w2).drew
    go_wp2_with fail
    go_region_held3 (fun W => W.cell? ⟨g, 0, none⟩ = some (.int .i64 k) ∧ W.cell? ⟨g, 1, none⟩ = some (.int .i64 n) ∧ W.cell? ⟨g, 2, none⟩ = some (.string s) ∧ W.cell? ⟨g, 3, none⟩ = some (.slice A x c) ∧ W.cell? ⟨g, 4, none⟩ = some (.slice A' y c'))
      (first | exact HRR.out _ hBB)
      (first
        | (go_at_call 15; refine (HC1.out _ (HBW.out _ hBB)).mono ?_; rintro e wx ⟨rfl, hBx⟩; have hBB := hBB.trans (hBx.mono hBB.size))
        | (go_at_call 16; refine (HR.out _ (HBW.out _ hBB)).mono ?_; rintro e wx ⟨rfl, hBx⟩; have hBB := hBB.trans (hBx.mono hBB.size))
        | (go_at_call 14; refine (HA.out _ (HBW.out _ hBB)).mono ?_; rintro e wx ⟨rfl, hBx⟩; have hBB := hBB.trans (hBx.mono hBB.size)))
    all_goals
      have HBZ := hide (HBW.out _ hBB)
      go_wp2_with fail
      go_ret
      exact ⟨rfl, HBZ.out⟩
set_option maxRecDepth 20000 in
set_option maxHeartbeats 1000000 in
theorem Counts_run (m : Nat) (d : Dt) (A : Option Addr) (c : Nat) (A' : Option Addr) (c' : Nat) (w : World) (hp : Parts w w.heap.size m d A c A' c') (ht : Tab w) :
    Calls Tryd.prog 5 #[datV d A c A' c'] w (Fine w) := by
  have HS := hide fun w' (hB : Below w.heap.size w w') => Small_run m d A c A' c' w' (hp.turn (Same.of_below hB) hB.size)
  have HA := hide fun w' (hB : Below w.heap.size w w') => awake_run w' (tab_below ht hB)
  have HC := hide fun (h : smallF m d = true) w' (hB : Below w.heap.size w w') => And.intro (Depth_run m d A c A' c' w' (hp.turn (Same.of_below hB) hB.size) (by have := small_parts hp h; omega)) (And.intro (refDepth_run m d A c A' c' w' (hp.turn (Same.of_below hB) hB.size) (by have := small_parts hp h; omega)) (And.intro (Size_run m d A c A' c' w' (hp.turn (Same.of_below hB) hB.size) (by have := small_parts hp h; omega))
    (show Calls Tryd.prog 23 #[datV d A c A' c'] w' fun e w'' => e = .returned (.int .i64 (if checkD d = 0 then partsF m d else 0)) ∧ Below w'.heap.size w' w'' by
      have h1 := refSize_run m d A c A' c' w' (hp.turn (Same.of_below hB) hB.size)
      rw [sizeF_all m 1073741824 hp (by omega) (by have := small_parts hp h; omega)] at h1
      exact h1)))
  obtain ⟨z, hz⟩ : ∃ z, z = (if checkD d = 0 then heightF m d else 0) := ⟨_, rfl⟩
  obtain ⟨z', hz'⟩ : ∃ z, z = (if checkD d = 0 then partsF m d else 0) := ⟨_, rfl⟩
  obtain ⟨b, hb⟩ : ∃ b, b = smallF m d := ⟨_, rfl⟩
  rw [← hz, ← hz'] at HC
  rw [← hb] at HC HS
  unfold datV datCs at HS HC
  unfold datV datCs
  obtain ⟨k, hk⟩ : ∃ k, k = kD d := ⟨_, rfl⟩
  obtain ⟨n, hn⟩ : ∃ k, k = nD d := ⟨_, rfl⟩
  obtain ⟨s, hs⟩ : ∃ k, k = sD d := ⟨_, rfl⟩
  obtain ⟨x, hx⟩ : ∃ k, k = (iD d).length := ⟨_, rfl⟩
  obtain ⟨y, hy⟩ : ∃ k, k = (mD d).length := ⟨_, rfl⟩
  rw [← hk, ← hn, ← hs, ← hx, ← hy] at HS HC ⊢
  clear hp hz hz' hb hk hn hs hx hy ht
  go_enter Tryd.func5, Tryd.ntmps5
  go_upto_region 1 with fail
  obtain ⟨w1, g, e1, e2, hBL, c0, c1, c2, c3, c4, hROW⟩ := boxD w k n s (.slice A x c) (.slice A' y c')
  rw [e1, e2]
  have HBL := hide hBL; have HROW := hide hROW
  clear e1 e2 hBL hROW
  go_wp2_with fail
  refine (HS.out _ HBL.out).mono ?_; rintro e w2 ⟨rfl, hB2⟩
  have HB2 := hide (HBL.out.trans (hB2.mono HBL.out.size))
  have HR2 := hide (HROW.out.below hB2)
  clear c0 c1 c2 c3 c4 hB2 HROW HS HBL
  cases b with
  | false =>
    go_wp2_with fail
    refine (HA.out _ HB2.out).mono ?_; rintro e w3 ⟨rfl, hB3⟩
    have HB3 := hide (HB2.out.trans (hB3.mono HB2.out.size))
    clear hB3
    go_wp2_with fail
    go_ret
    exact ⟨rfl, HB3.out⟩
  | true =>
    have HC1 := hide (HC.out rfl)
    clear HC
    have HRR := hide fun W (h : Below w2.heap.size w2 W) => row5 (HR2.out.below h)
    have HBW := hide fun W (h : Below w2.heap.size w2 W) => HB2.out.trans (h.mono HB2.out.size)
    obtain ⟨z0, z1, z2, z3, z4⟩ := HRR.out _ (Below.refl _ _)
    have hBB := (Below.refl w2.heap.size w2).drew
    go_wp2_with fail
    go_region_held3 (fun W => W.cell? ⟨g, 0, none⟩ = some (.int .i64 k) ∧ W.cell? ⟨g, 1, none⟩ = some (.int .i64 n) ∧ W.cell? ⟨g, 2, none⟩ = some (.string s) ∧ W.cell? ⟨g, 3, none⟩ = some (.slice A x c) ∧ W.cell? ⟨g, 4, none⟩ = some (.slice A' y c'))
      (first | exact HRR.out _ hBB)
      (first
        | (go_at_call 20; refine ((HC1.out _ (HBW.out _ hBB)).1).mono ?_; rintro e wx ⟨rfl, hBx⟩; have hBB := hBB.trans (hBx.mono hBB.size))
        | (go_at_call 21; refine ((HC1.out _ (HBW.out _ hBB)).2.1).mono ?_; rintro e wx ⟨rfl, hBx⟩; have hBB := hBB.trans (hBx.mono hBB.size))
        | (go_at_call 22; refine ((HC1.out _ (HBW.out _ hBB)).2.2.1).mono ?_; rintro e wx ⟨rfl, hBx⟩; have hBB := hBB.trans (hBx.mono hBB.size))
        | (go_at_call 23; refine ((HC1.out _ (HBW.out _ hBB)).2.2.2).mono ?_; rintro e wx ⟨rfl, hBx⟩; have hBB := hBB.trans (hBx.mono hBB.size))
        | (go_at_call 14; refine (HA.out _ (HBW.out _ hBB)).mono ?_; rintro e wx ⟨rfl, hBx⟩; have hBB := hBB.trans (hBx.mono hBB.size)))
    all_goals
      have HBZ := hide (HBW.out _ hBB)
      go_wp2_with fail
      go_ret
      exact ⟨rfl, HBZ.out⟩
end Go.Proofs.YtajpgmacabeeeaaDoor
