/- The laws' example is as the chapter says. -/
import Derived.Test.YtajpgmacabeeeaaDoorGJ
import Derived.Test.YtajpgmacabeeeaaDoorGF
import Derived.Test.YtajpgmacabeeeaaDoorGC
import Derived.Deep.RegionHeld3

/- The laws' example is as the chapter says. -/
namespace Go.Proofs.YtajpgmacabeeeaaDoor
open Go.RowKit

abbrev xD : Dt := mkD 4 0 ⟨#[120]⟩ [] []
def exText : ByteArray := ⟨#[123, 97, 58, 32, 49, 44, 32, 98, 58, 32, 91, 110, 117, 108, 108, 44, 32, 34, 120, 34, 93, 125]⟩
theorem ex_fit {W : World} {a c a' c'} (hp : Parts W W.heap.size 3 exD a c a' c') : partsF 3 exD ≤ 1000000000 ∧ FitD 16 exD ∧ ∀ r, FitC r exD := by
  have h : partsF 3 exD = 5 := by kernel_rfl
  exact ⟨by omega, fit_of_parts 3 16 hp (by omega), fun r => fitC_of_parts 3 r hp (by omega)⟩
section
variable {W : World} {a : Option Addr} {c : Nat} {a' : Option Addr} {c' : Nat}
theorem text_ex (hp : Parts W W.heap.size 3 exD a c a' c') (ht : Tab W) : Calls Tryd.prog 33 #[datV exD a c a' c'] W fun e w' => e = .returned (.tuple #[.string exText, .int .i64 0]) ∧ Below W.heap.size W w' := by
  have h := Text_run 3 exD a c a' c' W hp (ex_fit hp).2.1 (by decide) ht
  rw [show textD 3 exD = exText by kernel_rfl, show checkD exD = 0 by kernel_rfl] at h
  exact h
theorem depth_ex (hp : Parts W W.heap.size 3 exD a c a' c') : Calls Tryd.prog 20 #[datV exD a c a' c'] W fun e w' => e = .returned (.int .i64 3) ∧ Below W.heap.size W w' := by
  have h := Depth_run 3 exD a c a' c' W hp (ex_fit hp).1
  rw [show (if checkD exD = 0 then heightF 3 exD else 0) = 3 by kernel_rfl] at h
  exact h
theorem size_ex (hp : Parts W W.heap.size 3 exD a c a' c') : Calls Tryd.prog 22 #[datV exD a c a' c'] W fun e w' => e = .returned (.int .i64 5) ∧ Below W.heap.size W w' := by
  have h := Size_run 3 exD a c a' c' W hp (ex_fit hp).1
  rw [show (if checkD exD = 0 then partsF 3 exD else 0) = 5 by kernel_rfl] at h
  exact h
theorem leaves_ex (hp : Parts W W.heap.size 3 exD a c a' c') : Calls Tryd.prog 31 #[datV exD a c a' c'] W fun e w' => (∃ A q, e = .returned (.slice A 3 q)) ∧ Below W.heap.size W w' := by
  refine (Leaves_run 3 exD a c a' c' W hp (ex_fit hp).1).mono ?_
  rintro e w' ⟨u, rfl, hB, vs, ho, _⟩
  rw [show (if checkD exD = 0 then leavesF 3 exD [] else []).length = 3 by kernel_rfl] at ho
  obtain ⟨g, cap, e, _⟩ := ho.form (by omega)
  exact ⟨⟨_, cap, by rw [e]⟩, hB⟩
theorem get_ex (u : Value) (hp : Parts W W.heap.size 3 exD a c a' c') (hu : StepsR W W.heap.size u [(⟨#[98]⟩, 0), (⟨#[]⟩, 1)]) : Calls Tryd.prog 28 #[datV exD a c a' c', u] W fun e w' => ∃ b q b' q', e = .returned (.tuple #[.agg #[.int .i64 4, .int .i64 0, .string ⟨#[120]⟩, .slice b 0 q, .slice b' 0 q'], .bool true]) ∧ Parts w' w'.heap.size 3 xD b q b' q' ∧ Below W.heap.size W w' := by
  refine (Get_run 2 exD a c a' c' u _ W hp (ex_fit hp).2.2 hu).mono ?_
  rintro e w' ⟨X, b, q, b', q', rfl, hX, hP, hB⟩
  rw [show getF 3 exD [(⟨#[98]⟩, 0), (⟨#[]⟩, 1)] = some xD by kernel_rfl] at hX ⊢
  have hX : X = xD := hX
  subst hX
  exact ⟨b, q, b', q', rfl, hP, hB⟩
theorem check_zero : Calls Tryd.prog 15 #[.agg #[.int .i64 0, .int .i64 0, .string ⟨#[]⟩, .slice none 0 0, .slice none 0 0]] W fun e w' => e = .returned (.int .i64 11) ∧ Below W.heap.size W w' := by
  have h := Check_run 1 zeroD none 0 none 0 W (zero_parts _ _ _) (fitD_of_fitC 16 (fitC_zero 16))
  rw [show checkD zeroD = 11 by kernel_rfl] at h
  exact h
theorem make_two : Calls Tryd.prog 17 #[.agg #[.int .i64 2, .int .i64 2, .string ⟨#[]⟩, .slice none 0 0, .slice none 0 0]] W fun e w' => ∃ b q b' q', e = .returned (.tuple #[.agg #[.int .i64 0, .int .i64 0, .string ⟨#[]⟩, .slice b 0 q, .slice b' 0 q'], .int .i64 1]) ∧ Below W.heap.size W w' := by
  have hp : Parts W W.heap.size 1 (mkD 2 2 ⟨#[]⟩ [] []) none 0 none 0 := leaf_parts _ _ 0 _ _ _
  refine (Make_run 1 (mkD 2 2 ⟨#[]⟩ [] []) none 0 none 0 W hp (fun r => fitC_of_parts 1 r hp (by decide))).mono ?_
  rintro e w' ⟨X, b, q, b', q', rfl, hX, hP, hB⟩
  rw [show checkD (cleanF 1 1 (mkD 2 2 ⟨#[]⟩ [] [])) = 1 by kernel_rfl] at hX ⊢
  have hX : X = zeroD := hX
  subst hX
  exact ⟨b, q, b', q', rfl, hB⟩
theorem equal_x {b q b' q'} (hp : Parts W W.heap.size 3 xD b q b' q') : Calls Tryd.prog 26 #[.agg #[.int .i64 4, .int .i64 0, .string ⟨#[120]⟩, .slice b 0 q, .slice b' 0 q'], .agg #[.int .i64 4, .int .i64 0, .string ⟨#[120]⟩, .slice b 0 q, .slice b' 0 q']] W fun e w' => e = .returned (.bool true) ∧ Below W.heap.size W w' := by
  have hf : FitD 16 xD := fit_of_parts 3 16 hp (by decide)
  have h := Equal_run 3 xD b q b' q' xD b q b' q' W hp hp hf hf
  rw [show equalD 3 xD xD = true by kernel_rfl] at h
  exact h
theorem compare_x {b q b' q'} (hx : Parts W W.heap.size 3 xD b q b' q') (hp : Parts W W.heap.size 3 exD a c a' c') : Calls Tryd.prog 24 #[.agg #[.int .i64 4, .int .i64 0, .string ⟨#[120]⟩, .slice b 0 q, .slice b' 0 q'], datV exD a c a' c'] W fun e w' => e = .returned (.int .i64 (-1)) ∧ Below W.heap.size W w' := by
  have hf : FitD 16 xD := fit_of_parts 3 16 hx (by decide)
  have h := Compare_run 3 xD b q b' q' exD a c a' c' W hx hp hf (ex_fit hp).2.1
  rw [show compareD 3 xD exD = -1 by kernel_rfl] at h
  exact h
end

set_option maxRecDepth 100000 in
set_option maxHeartbeats 3000000 in
theorem awake_run (w : World) (ht : Tab w) : Calls Tryd.prog 14 #[] w fun e w' => e = .returned (.bool true) ∧ Below w.heap.size w w' := by
  have HT := hide fun W (h : Below w.heap.size w W) => tab_below ht h
  clear ht
  go_enter Tryd.func14, Tryd.ntmps14
  go_wp2_with fail
  refine (example_run _).mono ?_; rintro e w1 ⟨a1, c1, a1', c1', rfl, hB1, hP1⟩
  have HB1 := hide hB1; have HP1 := hide hP1
  clear hB1 hP1
  go_wp2_with fail
  refine (text_ex HP1.out (HT.out _ HB1.out)).mono ?_; rintro e w2 ⟨rfl, hB2⟩
  have HB2 := hide (HB1.out.trans (hB2.mono HB1.out.size))
  clear hB2 HB1 HP1
  go_wp2_with fail
  refine (example_run _).mono ?_; rintro e w3 ⟨a1, c1, a1', c1', rfl, hB3, hP3⟩
  have HB3 := hide (HB2.out.trans (hB3.mono HB2.out.size)); have HP3 := hide hP3
  clear hB3 hP3 HB2
  go_wp2_with fail
  have R4 := Row.new w3 48 [.string ⟨#[98]⟩, .int .i64 0, .string ⟨#[]⟩, .int .i64 1]
  obtain ⟨w4, hw4⟩ : ∃ w4, w4 = w3.alloc (Obj.cells #[Value.string ⟨#[98]⟩, .int .i64 0, .string ⟨#[]⟩, .int .i64 1] 48) := ⟨_, rfl⟩
  obtain ⟨g4, hg4⟩ : ∃ g4, g4 = w3.heap.size := ⟨_, rfl⟩
  rw [← hg4] at R4
  have R4' : Row w4 g4 48 [.string ⟨#[98]⟩, .int .i64 0, .string ⟨#[]⟩, .int .i64 1] := by rw [hw4]; exact R4
  have hB4 : Below w3.heap.size w3 w4 := by rw [hw4]; exact (Below.refl _ _).alloc (Nat.le_refl _) _
  have HST := hide (show StepsR w4 w4.heap.size (.slice (some ⟨g4, 0, none⟩) 2 2) [(⟨#[98]⟩, 0), (⟨#[]⟩, 1)] from ⟨_, 2, rfl, Nat.le_refl _, by decide, fun i s hi => by
    refine ⟨_, rfl, R4'.lt, ?_⟩
    rw [add_head]
    match i, hi with
    | 0, hi => injection hi with hi; subst hi; exact ⟨R4'.cell 0, R4'.cell 1⟩
    | 1, hi => injection hi with hi; subst hi; exact ⟨R4'.cell 2, R4'.cell 3⟩
    | i + 2, hi => simp at hi⟩)
  have HB4 := hide (HB3.out.trans (hB4.mono HB3.out.size))
  have HP4 := hide (HP3.out.turn (Same.of_below hB4) hB4.size)
  rw [← hw4, ← hg4]
  clear R4 R4' hw4 hg4 hB4 HP3 HB3
  refine (get_ex _ HP4.out HST.out).mono ?_; rintro e w5 ⟨xa, xq, xa', xq', rfl, hP5, hB5⟩
  have HB5 := hide (HB4.out.trans (hB5.mono HB4.out.size)); have HP5 := hide hP5
  clear hB5 hP5 HP4 HB4 HST
  go_upto_region 3 with fail
  obtain ⟨w6, g6, e1, e2, hB6, _, _, _, _, _, hR6⟩ := boxD w5 4 0 ⟨#[120]⟩ (.slice xa 0 xq) (.slice xa' 0 xq')
  rw [e1, e2]
  have HB6 := hide (HB5.out.trans (hB6.mono HB5.out.size)); have HP6 := hide (HP5.out.turn (Same.of_below hB6) hB6.size)
  have HR6 := hide hR6
  clear e1 e2 hB6 hR6 HP5 HB5
  go_wp2_with fail
  refine (make_two (W := _)).mono ?_; rintro e w7 ⟨ya, yq, ya', yq', rfl, hB7⟩
  have HB7 := hide (HB6.out.trans (hB7.mono HB6.out.size)); have HP7 := hide (HP6.out.turn (Same.of_below hB7) hB7.size)
  have HR7 := hide (HR6.out.below hB7)
  clear hB7 HP6 HB6 HR6
  go_upto_region 4 with fail
  obtain ⟨w8, g8, e1, e2, hB8, _, _, _, _, _, _⟩ := boxD w7 0 0 ⟨#[]⟩ (.slice ya 0 yq) (.slice ya' 0 yq')
  rw [e1]
  have HB8 := hide (HB7.out.trans (hB8.mono HB7.out.size)); have HP8 := hide fun W (h : Below w8.heap.size w8 W) => (HP7.out.turn (Same.of_below hB8) hB8.size).turn (Same.of_below h) h.size
  have HR8 := hide fun W (h : Below w8.heap.size w8 W) => row5 ((HR7.out.below hB8).below h)
  clear e1 e2 hB8 HP7 HB7 HR7
  obtain ⟨z0, z1, z2, z3, z4⟩ := HR8.out _ (Below.refl _ _)
  have hBB := (Below.refl w8.heap.size w8).drew
  have g1 : (exText.toList == [123, 97, 58, 32, 49, 44, 32, 98, 58, 32, 91, 110, 117, 108, 108, 44, 32, 34, 120, 34, 93, 125]) = true := by kernel_rfl
  have g2 : (exText.toList == (⟨#[123, 97, 58, 32, 49, 44, 32, 98, 58, 32, 91, 110, 117, 108, 108, 44, 32, 34, 120, 34, 93, 125]⟩ : ByteArray).toList) = true := by kernel_rfl
  go_region_held3 (fun W => W.cell? ⟨g6, 0, none⟩ = some (.int .i64 4) ∧ W.cell? ⟨g6, 1, none⟩ = some (.int .i64 0) ∧ W.cell? ⟨g6, 2, none⟩ = some (.string ⟨#[120]⟩) ∧ W.cell? ⟨g6, 3, none⟩ = some (.slice xa 0 xq) ∧ W.cell? ⟨g6, 4, none⟩ = some (.slice xa' 0 xq'))
    (first | exact HR8.out _ hBB)
    (first
    | (go_at_call 38; refine (example_run _).mono ?_; rintro e wx ⟨a1, c1, a1', c1', rfl, hBx, hPE⟩; have hBB := hBB.trans (hBx.mono hBB.size))
    | (go_at_call 20; refine (depth_ex hPE).mono ?_; rintro e wx ⟨rfl, hBx⟩; have hBB := hBB.trans (hBx.mono hBB.size))
    | (go_at_call 22; refine (size_ex hPE).mono ?_; rintro e wx ⟨rfl, hBx⟩; have hBB := hBB.trans (hBx.mono hBB.size))
    | (go_at_call 31; refine (leaves_ex hPE).mono ?_; rintro e wx ⟨⟨lA, lq, rfl⟩, hBx⟩; have hBB := hBB.trans (hBx.mono hBB.size))
    | (go_at_call 26; refine (equal_x (HP8.out _ hBB)).mono ?_; rintro e wx ⟨rfl, hBx⟩; have hBB := hBB.trans (hBx.mono hBB.size))
    | (go_at_call 15; refine (check_zero (W := _)).mono ?_; rintro e wx ⟨rfl, hBx⟩; have hBB := hBB.trans (hBx.mono hBB.size))
    | (go_at_call 24; refine (compare_x (HP8.out _ hBB) hPE).mono ?_; rintro e wx ⟨rfl, hBx⟩; have hBB := hBB.trans (hBx.mono hBB.size)))
  all_goals
    have HBZ := hide (HB8.out.trans (hBB.mono HB8.out.size))
    go_wp2_with fail
    go_ret
    exact ⟨rfl, HBZ.out⟩
end Go.Proofs.YtajpgmacabeeeaaDoor
