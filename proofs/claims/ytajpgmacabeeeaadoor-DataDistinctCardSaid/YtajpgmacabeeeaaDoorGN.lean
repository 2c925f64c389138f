/- The laws over two pieces of data: the order and the equality. -/
import Derived.Test.YtajpgmacabeeeaaDoorGL
import Derived.Test.YtajpgmacabeeeaaDoorGD

/- The laws over two pieces of data: the order and the equality. -/
namespace Go.Proofs.YtajpgmacabeeeaaDoor
open Go.RowKit

set_option maxRecDepth 20000 in
set_option maxHeartbeats 2000000 in
theorem Compares_run (m : Nat) (d : Dt) (A : Option Addr) (c : Nat) (A' : Option Addr) (c' : Nat) (e : Dt) (E : Option Addr) (f : Nat) (E' : Option Addr) (f' : Nat) (w : World) (hp : Parts w w.heap.size m d A c A' c') (hq : Parts w w.heap.size m e E f E' f') (ht : Tab w) :
    Calls Tryd.prog 6 #[datV d A c A' c', datV e E f E' f'] w (Fine w) := by
  have HS := hide fun w' (hB : Below w.heap.size w w') => And.intro (Small_run m d A c A' c' w' (hp.turn (Same.of_below hB) hB.size)) (Small_run m e E f E' f' w' (hq.turn (Same.of_below hB) hB.size))
  have HA := hide fun w' (hB : Below w.heap.size w w') => awake_run w' (tab_below ht hB)
  have HC := hide fun (h : smallF m d = true) (h' : smallF m e = true) w' (hB : Below w.heap.size w w') =>
    have f1 := fit_of_parts m 16 hp (by have := small_parts hp h; omega)
    have f2 := fit_of_parts m 16 hq (by have := small_parts hq h'; omega)
    have p1 := hp.turn (Same.of_below hB) hB.size
    have p2 := hq.turn (Same.of_below hB) hB.size
    And.intro (Compare_run m d A c A' c' e E f E' f' w' p1 p2 f1 f2) (And.intro (refCompare_run m d A c A' c' e E f E' f' w' p1 p2) (And.intro (Equal_run m d A c A' c' e E f E' f' w' p1 p2 f1 f2) (refEqual_run m d A c A' c' e E f E' f' w' p1 p2)))
  rw [rcompare_eq, requal_eq] at HC
  obtain ⟨z, hz⟩ : ∃ z, z = compareD m d e := ⟨_, rfl⟩
  obtain ⟨z', hz'⟩ : ∃ z, z = equalD m d e := ⟨_, rfl⟩
  obtain ⟨b, hb⟩ : ∃ b, b = smallF m d := ⟨_, rfl⟩
  obtain ⟨b', hb'⟩ : ∃ b, b = smallF m e := ⟨_, rfl⟩
  rw [← hz, ← hz', ← hb, ← hb'] at HC
  rw [← hb, ← hb'] at HS
  unfold datV datCs at HS HC
  unfold datV datCs
  obtain ⟨k, hk⟩ : ∃ k, k = kD d := ⟨_, rfl⟩
  obtain ⟨n, hn⟩ : ∃ k, k = nD d := ⟨_, rfl⟩
  obtain ⟨s, hs⟩ : ∃ k, k = sD d := ⟨_, rfl⟩
  obtain ⟨x, hx⟩ : ∃ k, k = (iD d).length := ⟨_, rfl⟩
  obtain ⟨y, hy⟩ : ∃ k, k = (mD d).length := ⟨_, rfl⟩
  obtain ⟨k2, hk2⟩ : ∃ k, k = kD e := ⟨_, rfl⟩
  obtain ⟨n2, hn2⟩ : ∃ k, k = nD e := ⟨_, rfl⟩
  obtain ⟨s2, hs2⟩ : ∃ k, k = sD e := ⟨_, rfl⟩
  obtain ⟨x2, hx2⟩ : ∃ k, k = (iD e).length := ⟨_, rfl⟩
  obtain ⟨y2, hy2⟩ : ∃ k, k = (mD e).length := ⟨_, rfl⟩
  rw [← hk, ← hn, ← hs, ← hx, ← hy, ← hk2, ← hn2, ← hs2, ← hx2, ← hy2] at HS HC ⊢
  clear hp hq hz hz' hb hb' hk hn hs hx hy hk2 hn2 hs2 hx2 hy2 ht
  go_enter Tryd.func6, Tryd.ntmps6
  go_upto_region 1 with fail
  obtain ⟨w1, g, e1, e2, hB1, _, _, _, _, _, hR1⟩ := boxD w k n s (.slice A x c) (.slice A' y c')
  obtain ⟨w2, g2, e3, e4, hB2, _, _, _, _, _, hR2⟩ := boxD w1 k2 n2 s2 (.slice E x2 f) (.slice E' y2 f')
  have e5 : g + 1 = g2 := by rw [← e4, ← e1, ← e2]; simp
  rw [e1, e2, e3, e5]
  have HB2 := hide (hB1.trans (hB2.mono hB1.size))
  have HRR := hide fun W (h : Below w2.heap.size w2 W) => And.intro (row5 ((hR1.below hB2).below h)) (row5 (hR2.below h))
  have HBW := hide fun W (h : Below w2.heap.size w2 W) => HB2.out.trans (h.mono HB2.out.size)
  have hBB := Below.refl w2.heap.size w2
  obtain ⟨⟨z0, z1, z2, z3, z4⟩, y0, y1, y2', y3, y4⟩ := HRR.out _ hBB
  clear e1 e2 e3 e4 e5 hB1 hB2 hR1 hR2
  go_wp2_with fail
  refine (HS.out _ HB2.out).1.mono ?_; rintro r w3 ⟨rfl, hB3⟩
  have hBB := hBB.trans hB3
  clear hB3 z0 z1 z2 z3 z4 y0 y1 y2' y3 y4
  obtain ⟨⟨z0, z1, z2, z3, z4⟩, y0, y1, y2', y3, y4⟩ := HRR.out _ hBB
  have HX3 := hide hBB
  cases b with
  | false =>
    go_wp2_with fail
    refine (HA.out _ (HBW.out _ HX3.out)).mono ?_; rintro r w4 ⟨rfl, hB4⟩
    have HBZ := hide (HBW.out _ (HX3.out.trans (hB4.mono HX3.out.size)))
    clear hB4
    go_wp2_with fail
    go_ret
    exact ⟨rfl, HBZ.out⟩
  | true =>
    have HC1 := hide (HC.out rfl)
    clear HC
    go_wp2_with fail
    refine (HS.out _ (HBW.out _ HX3.out)).2.mono ?_; rintro r w4 ⟨rfl, hB4⟩
    have hBB := HX3.out.trans (hB4.mono HX3.out.size)
    clear hB4 z0 z1 z2 z3 z4 y0 y1 y2' y3 y4 HX3
    obtain ⟨⟨z0, z1, z2, z3, z4⟩, y0, y1, y2', y3, y4⟩ := HRR.out _ hBB
    have HX4 := hide hBB
    cases b' with
    | false =>
      go_wp2_with fail
      refine (HA.out _ (HBW.out _ HX4.out)).mono ?_; rintro r w5 ⟨rfl, hB5⟩
      have HBZ := hide (HBW.out _ (HX4.out.trans (hB5.mono HX4.out.size)))
      clear hB5
      go_wp2_with fail
      go_ret
      exact ⟨rfl, HBZ.out⟩
    | true =>
      have HC2 := hide (HC1.out rfl)
      clear HC1
      have hBB := HX4.out.drew
      go_wp2_with fail
      go_region_held3 (fun W => (W.cell? ⟨g, 0, none⟩ = some (.int .i64 k) ∧ W.cell? ⟨g, 1, none⟩ = some (.int .i64 n) ∧ W.cell? ⟨g, 2, none⟩ = some (.string s) ∧ W.cell? ⟨g, 3, none⟩ = some (.slice A x c) ∧ W.cell? ⟨g, 4, none⟩ = some (.slice A' y c')) ∧
          W.cell? ⟨g2, 0, none⟩ = some (.int .i64 k2) ∧ W.cell? ⟨g2, 1, none⟩ = some (.int .i64 n2) ∧ W.cell? ⟨g2, 2, none⟩ = some (.string s2) ∧ W.cell? ⟨g2, 3, none⟩ = some (.slice E x2 f) ∧ W.cell? ⟨g2, 4, none⟩ = some (.slice E' y2 f'))
        (first | exact HRR.out _ hBB)
        (first
          | (go_at_call 24; refine (HC2.out _ (HBW.out _ hBB)).1.mono ?_; rintro r wx ⟨rfl, hBx⟩; have hBB := hBB.trans (hBx.mono hBB.size))
          | (go_at_call 25; refine (HC2.out _ (HBW.out _ hBB)).2.1.mono ?_; rintro r wx ⟨rfl, hBx⟩; have hBB := hBB.trans (hBx.mono hBB.size))
          | (go_at_call 26; refine (HC2.out _ (HBW.out _ hBB)).2.2.1.mono ?_; rintro r wx ⟨rfl, hBx⟩; have hBB := hBB.trans (hBx.mono hBB.size))
          | (go_at_call 27; refine (HC2.out _ (HBW.out _ hBB)).2.2.2.mono ?_; rintro r wx ⟨rfl, hBx⟩; have hBB := hBB.trans (hBx.mono hBB.size))
          | (go_at_call 14; refine (HA.out _ (HBW.out _ hBB)).mono ?_; rintro r wx ⟨rfl, hBx⟩; have hBB := hBB.trans (hBx.mono hBB.size)))
      all_goals
        have HBZ := hide (HBW.out _ hBB)
        go_wp2_with fail
        go_ret
        exact ⟨rfl, HBZ.out⟩
end Go.Proofs.YtajpgmacabeeeaaDoor
