/- The law of Make. -/
import Derived.Test.YtajpgmacabeeeaaDoorGL
import Derived.Test.YtajpgmacabeeeaaDoorGU

/- The law of Make. -/
namespace Go.Proofs.YtajpgmacabeeeaaDoor
open Go.RowKit

set_option maxRecDepth 20000 in
set_option maxHeartbeats 2000000 in
theorem Makes_run (m : Nat) (d : Dt) (A : Option Addr) (c : Nat) (A' : Option Addr) (c' : Nat) (w : World) (hp : Parts w w.heap.size m d A c A' c') (ht : Tab w) :
    Calls Tryd.prog 4 #[datV d A c A' c'] w (Fine w) := by
  obtain ⟨hz1, hmk⟩ := makes_same m d
  obtain ⟨r2, hr2⟩ : ∃ r, r = clearF m d := ⟨_, rfl⟩
  obtain ⟨z, hz⟩ : ∃ z, z = checkD r2 := ⟨_, rfl⟩
  rw [← hr2] at hz1 hmk
  rw [← hz] at hz1 hmk
  have HS := hide fun w' (hB : Below w.heap.size w w') => Small_run m d A c A' c' w' (hp.turn (Same.of_below hB) hB.size)
  have HA := hide fun w' (hB : Below w.heap.size w w') => awake_run w' (tab_below ht hB)
  have HC := hide fun (h : smallF m d = true) w' (hB : Below w.heap.size w w') => show Calls Tryd.prog 17 #[datV d A c A' c'] w' fun e w'' => ∃ X a q a' q', e = .returned (.tuple #[datV X a q a' q', .int .i64 z]) ∧ X = (if z = 0 then r2 else zeroD) ∧ Parts w'' w''.heap.size m X a q a' q' ∧ Below w'.heap.size w' w'' by
    refine (Make_run m d A c A' c' w' (hp.turn (Same.of_below hB) hB.size) (fun r => fitC_of_parts m r hp (small_parts hp h))).mono ?_
    rintro e w'' ⟨X, a, q, a', q', h1, h2, h3, h4⟩
    rw [hz1] at h1 h2
    refine ⟨X, a, q, a', q', h1, ?_, h3, h4⟩
    rw [h2]
    by_cases hc : z = 0
    · rw [if_pos hc, if_pos hc]; exact (hmk hc).1
    · rw [if_neg hc, if_neg hc]
  have HR := hide fun (h : smallF m d = true) w' (hB : Below w.heap.size w w') => show Calls Tryd.prog 18 #[datV d A c A' c'] w' fun e w'' => ∃ X a q a' q', e = .returned (.tuple #[datV X a q a' q', .int .i64 z]) ∧ X = (if z = 0 then r2 else zeroD) ∧ Parts w'' w''.heap.size m X a q a' q' ∧ Below w'.heap.size w' w'' by
    refine (refMake_run m d A c A' c' w' (hp.turn (Same.of_below hB) hB.size) (fun r => fitC_of_parts m r hp (small_parts hp h))).mono ?_
    rintro e w'' ⟨X, a, q, a', q', h1, h2, h3, h4⟩
    rw [← hr2, ← hz] at h1 h2
    exact ⟨X, a, q, a', q', h1, h2, h3, h4⟩
  have HM := hide fun (h : smallF m d = true) (hc : z = 0) W a q a' q' (hP : Parts W W.heap.size m r2 a q a' q') => show (Calls Tryd.prog 17 #[datV r2 a q a' q'] W fun e w'' => ∃ b p b' p', e = .returned (.tuple #[datV r2 b p b' p', .int .i64 0]) ∧ Parts w'' w''.heap.size m r2 b p b' p' ∧ Below W.heap.size W w'') ∧
      (Calls Tryd.prog 15 #[datV r2 a q a' q'] W fun e w' => e = .returned (.int .i64 0) ∧ Below W.heap.size W w') by
    have hfc : ∀ r, FitC r r2 := fun r => by rw [hr2]; exact fitC_clear r m (fitC_of_parts m r hp (small_parts hp h))
    constructor
    · refine (Make_run m r2 a q a' q' W hP hfc).mono ?_
      rintro e w'' ⟨X, b, p, b', p', h1, h2, h3, h4⟩
      rw [(hmk hc).2, ← hz, hc] at h1 h2
      rw [if_pos rfl] at h2
      subst h2
      exact ⟨b, p, b', p', h1, h3, h4⟩
    · have := Check_run m r2 a q a' q' W hP (fitD_of_fitC 16 (hfc 16))
      rw [← hz, hc] at this
      exact this
  have HSM := hide fun Y W a q a' q' b p b' p' (h1 : Parts W W.heap.size m Y a q a' q') (h2 : Parts W W.heap.size m Y b p b' p') => show Calls Tryd.prog 19 #[datV Y a q a' q', datV Y b p b' p'] W fun e w' => e = .returned (.bool true) ∧ Below W.heap.size W w' by
    have := same_run m Y a q a' q' Y b p b' p' W h1 h2
    rw [same_self] at this
    exact this
  obtain ⟨b, hb⟩ : ∃ b, b = smallF m d := ⟨_, rfl⟩
  rw [← hb] at HC HS HR HM
  unfold datV datCs at HC HS HR HM HSM
  unfold datV datCs
  obtain ⟨k, hk⟩ : ∃ k, k = kD d := ⟨_, rfl⟩
  obtain ⟨n, hn⟩ : ∃ k, k = nD d := ⟨_, rfl⟩
  obtain ⟨s, hs⟩ : ∃ k, k = sD d := ⟨_, rfl⟩
  obtain ⟨x, hx⟩ : ∃ k, k = (iD d).length := ⟨_, rfl⟩
  obtain ⟨y, hy⟩ : ∃ k, k = (mD d).length := ⟨_, rfl⟩
  rw [← hk, ← hn, ← hs, ← hx, ← hy] at HS HC HR ⊢
  clear hp hb hk hn hs hx hy ht hz1 hmk hr2 hz
  go_enter Tryd.func4, Tryd.ntmps4
  go_upto_region 1 with fail
  obtain ⟨w1, g, e1, e2, hBL, c0, c1, c2, c3, c4, hROW⟩ := boxD w k n s (.slice A x c) (.slice A' y c')
  rw [e1, e2]
  have HBL := hide hBL; have HROW := hide hROW
  clear e1 e2 hBL hROW
  go_wp2_with fail
  refine (HS.out _ HBL.out).mono ?_; rintro e w2 ⟨rfl, hB2⟩
  have HB2 := hide (HBL.out.trans (hB2.mono HBL.out.size))
  have HR2 := hide (HROW.out.below hB2)
  clear c0 c1 c2 c3 c4 hB2 HROW HS HBL
  cases b with
  | false =>
    go_wp2_with fail
    refine (HA.out _ HB2.out).mono ?_; rintro e w3 ⟨rfl, hB3⟩
    have HB3 := hide (HB2.out.trans (hB3.mono HB2.out.size))
    clear hB3
    go_wp2_with fail
    go_ret
    exact ⟨rfl, HB3.out⟩
  | true =>
    have HC1 := hide (HC.out (by trivial)); have HR1 := hide (HR.out (by trivial)); have HM1 := hide (HM.out (by trivial))
    clear HC HR HM
    obtain ⟨c0, c1, c2, c3, c4⟩ := row5 HR2.out
    go_wp2_with fail
    refine (HC1.out _ HB2.out).mono ?_; rintro e w3 ⟨Y, ya, yq, ya', yq', rfl, hY, hPY, hB3⟩
    have HB3 := hide (HB2.out.trans (hB3.mono HB2.out.size)); have HPY := hide hPY; have HY := Lib.hid hY
    have HR3 := hide (HR2.out.below hB3)
    clear hB3 hPY hY c0 c1 c2 c3 c4 HR2 HC1 HB2
    go_upto_region 4 with fail
    obtain ⟨w4, g5, e1, e2, hB4, _, _, _, _, _, hR4⟩ := boxD w3 (kD Y) (nD Y) (sD Y) (.slice ya (iD Y).length yq) (.slice ya' (mD Y).length yq')
    rw [e1, e2]
    have HB4 := hide (HB3.out.trans (hB4.mono HB3.out.size)); have HPY4 := hide (HPY.out.turn (Same.of_below hB4) hB4.size)
    have HRY := hide hR4
    obtain ⟨c0, c1, c2, c3, c4⟩ := row5 (HR3.out.below hB4)
    clear e1 e2 hB4 hR4 HB3 HPY HR3
    go_wp2_with fail
    refine (HR1.out _ HB4.out).mono ?_; rintro e w5 ⟨Z, za, zq, za', zq', rfl, hZ, hPZ, hB5⟩
    obtain rfl : Z = Y := hZ.trans HY.out.symm
    have HB5 := hide (HB4.out.trans (hB5.mono HB4.out.size)); have HPZ := hide hPZ
    have HPY5 := hide (HPY4.out.turn (Same.of_below hB5) hB5.size)
    have HRY5 := hide (HRY.out.below hB5)
    clear hB5 hPZ hZ c0 c1 c2 c3 c4 HRY HPY4 HB4 HR1
    go_upto_region 5 with fail
    obtain ⟨w6, g7, e1, e2, hB6, _, _, _, _, _, hR6⟩ := boxD w5 (kD Z) (nD Z) (sD Z) (.slice za (iD Z).length zq) (.slice za' (mD Z).length zq')
    rw [e1, e2]
    have HB6 := hide (HB5.out.trans (hB6.mono HB5.out.size))
    have HPY6 := hide (HPY5.out.turn (Same.of_below hB6) hB6.size)
    have HSAME := hide (HSM.out Z w6 ya yq ya' yq' za zq za' zq' HPY6.out (HPZ.out.turn (Same.of_below hB6) hB6.size))
    have HRY6 := hide (HRY5.out.below hB6)
    obtain ⟨c0, c1, c2, c3, c4⟩ := row5 HRY6.out
    obtain ⟨d0, d1, d2, d3, d4⟩ := row5 hR6
    have g0 : (z != z) = false := by simp
    clear e1 e2 hB6 hR6 HB5 HPZ HPY5 HRY5
    go_wp2_with fail
    refine HSAME.out.mono ?_; rintro e w7 ⟨rfl, hB7⟩
    have HB7 := hide (HB6.out.trans (hB7.mono HB6.out.size))
    have HRY7 := hide (HRY6.out.below hB7)
    have HPY7 := hide (HPY6.out.turn (Same.of_below hB7) hB7.size)
    clear hB7 HSAME c0 c1 c2 c3 c4 d0 d1 d2 d3 d4 HRY6 HPY6 HB6
    by_cases hz : z = 0
    · subst hz
      obtain rfl : Z = r2 := by rw [HY.out, if_pos rfl]
      have HM2 := hide (HM1.out rfl)
      obtain ⟨c0, c1, c2, c3, c4⟩ := row5 HRY7.out
      clear HM1 HY g0
      go_wp2_with fail
      refine (HM2.out w7 ya yq ya' yq' HPY7.out).1.mono ?_; rintro e w8 ⟨ua, uq, ua', uq', rfl, hPU, hB8⟩
      have HB8 := hide (HB7.out.trans (hB8.mono HB7.out.size)); have HPU := hide hPU
      have HRY8 := hide (HRY7.out.below hB8)
      have HPY8 := hide (HPY7.out.turn (Same.of_below hB8) hB8.size)
      clear hB8 hPU c0 c1 c2 c3 c4 HRY7 HPY7 HB7
      go_upto_region 10 with fail
      obtain ⟨w9, g9, e1, e2, hB9, _, _, _, _, _, hR9⟩ := boxD w8 (kD Z) (nD Z) (sD Z) (.slice ua (iD Z).length uq) (.slice ua' (mD Z).length uq')
      rw [e1, e2]
      have HB9 := hide (HB8.out.trans (hB9.mono HB8.out.size))
      have HPY9 := hide (HPY8.out.turn (Same.of_below hB9) hB9.size)
      have HSAME := hide (HSM.out Z w9 ya yq ya' yq' ua uq ua' uq' HPY9.out (HPU.out.turn (Same.of_below hB9) hB9.size))
      have HRY9 := hide (HRY8.out.below hB9)
      obtain ⟨c0, c1, c2, c3, c4⟩ := row5 HRY9.out
      obtain ⟨d0, d1, d2, d3, d4⟩ := row5 hR9
      clear e1 e2 hB9 hR9 HB8 HPU HPY8 HRY8
      go_wp2_with fail
      refine HSAME.out.mono ?_; rintro e wa ⟨rfl, hBa⟩
      have HBa := hide (HB9.out.trans (hBa.mono HB9.out.size))
      have HRYa := hide (HRY9.out.below hBa)
      have HPYa := hide (HPY9.out.turn (Same.of_below hBa) hBa.size)
      clear hBa HSAME c0 c1 c2 c3 c4 d0 d1 d2 d3 d4 HRY9 HPY9 HB9
      obtain ⟨c0, c1, c2, c3, c4⟩ := row5 HRYa.out
      go_wp2_with fail
      refine (HM2.out wa ya yq ya' yq' HPYa.out).2.mono ?_; rintro e wb ⟨rfl, hBb⟩
      have HBb := hide (HBa.out.trans (hBb.mono HBa.out.size))
      clear hBb c0 c1 c2 c3 c4
      go_wp2_with fail
      refine (HA.out _ HBb.out).mono ?_; rintro e wc ⟨rfl, hBc⟩
      have HBc := hide (HBb.out.trans (hBc.mono HBb.out.size))
      clear hBc
      go_wp2_with fail
      go_ret
      exact ⟨rfl, HBc.out⟩
    · have g1 : (z != 0) = true := by simpa using hz
      clear hz
      go_wp2_with fail
      refine (HA.out _ HB7.out).mono ?_; rintro e w8 ⟨rfl, hB8⟩
      have HB8 := hide (HB7.out.trans (hB8.mono HB7.out.size))
      clear hB8
      go_wp2_with fail
      go_ret
      exact ⟨rfl, HB8.out⟩
end Go.Proofs.YtajpgmacabeeeaaDoor
