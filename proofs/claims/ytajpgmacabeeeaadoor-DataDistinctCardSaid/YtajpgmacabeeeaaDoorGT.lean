/- The law of two pieces of data: the same text exactly if equal. -/
import Derived.Test.YtajpgmacabeeeaaDoorGS
import Derived.Test.YtajpgmacabeeeaaDoorGO
import Derived.Test.YtajpgmacabeeeaaDoorGR

/- The law of two pieces of data: the same text exactly if equal. -/
namespace Go.Proofs.YtajpgmacabeeeaaDoor
open Go.RowKit

theorem text_beq {w : World} {B m : Nat} {d e : Dt} {A c A' c' E f E' f'} (hp : Parts w B m d A c A' c') (hq : Parts w B m e E f E' f') (h1 : checkD d = 0) (h2 : checkD e = 0) : ((textD m d).toList == (textD m e).toList) = (compF m d e == 0) := by
  unfold textD
  rw [if_pos h1, if_pos h2]
  have h := text_eq hp hq h1 h2
  by_cases hc : compF m d e = 0
  · rw [h.2 hc, hc]; simp
  · have h3 : textF m d ≠ textF m e := fun e' => hc (h.1 e')
    have h4 : (compF m d e == 0) = false := by simpa using hc
    rw [h4]
    exact Bool.eq_false_iff.2 fun e' => h3 ((Lib.bytes_beq_iff _ _).1 e')
theorem text_bad {m : Nat} {d : Dt} (h : ¬ checkD d = 0) : textD m d = ByteArray.empty := by unfold textD; rw [if_neg h]

set_option maxRecDepth 20000 in
set_option maxHeartbeats 4000000 in
theorem Distinct_run (m : Nat) (d : Dt) (A : Option Addr) (c : Nat) (A' : Option Addr) (c' : Nat) (e : Dt) (E : Option Addr) (f : Nat) (E' : Option Addr) (f' : Nat) (w : World) (hp : Parts w w.heap.size m d A c A' c') (hq : Parts w w.heap.size m e E f E' f') (ht : Tab w) :
    Calls Tryd.prog 11 #[datV d A c A' c', datV e E f E' f'] w (Fine w) := by
  have HS := hide fun w' (hB : Below w.heap.size w w') => And.intro (Small_run m d A c A' c' w' (hp.turn (Same.of_below hB) hB.size)) (Small_run m e E f E' f' w' (hq.turn (Same.of_below hB) hB.size))
  have HA := hide fun w' (hB : Below w.heap.size w w') => awake_run w' (tab_below ht hB)
  have HC := hide fun (h : smallF m d = true) (h' : smallF m e = true) w' (hB : Below w.heap.size w w') =>
    have f1 := fit_of_parts m 16 hp (by have := small_parts hp h; omega)
    have f2 := fit_of_parts m 16 hq (by have := small_parts hq h'; omega)
    have p1 := hp.turn (Same.of_below hB) hB.size
    have p2 := hq.turn (Same.of_below hB) hB.size
    And.intro (Text_run m d A c A' c' w' p1 f1 (small_tb hp h) (tab_below ht hB)) (And.intro (Text_run m e E f E' f' w' p2 f2 (small_tb hq h') (tab_below ht hB)) (Equal_run m d A c A' c' e E f E' f' w' p1 p2 f1 f2))
  have HEQ := hide fun (h1 : checkD d = 0) (h2 : checkD e = 0) => show ∃ q : Bool, equalD m d e = q ∧ ((textD m d).toList == (textD m e).toList) = q from ⟨_, rfl, by rw [equalD_ok h1 h2]; exact text_beq hp hq h1 h2⟩
  have HBAD := hide (show (¬ checkD d = 0 → textD m d = ByteArray.empty) ∧ (¬ checkD e = 0 → textD m e = ByteArray.empty) from ⟨text_bad, text_bad⟩)
  obtain ⟨q, hq0⟩ : ∃ z, z = equalD m d e := ⟨_, rfl⟩
  obtain ⟨z1, hz1⟩ : ∃ z, z = checkD d := ⟨_, rfl⟩
  obtain ⟨z2, hz2⟩ : ∃ z, z = checkD e := ⟨_, rfl⟩
  obtain ⟨T, hT⟩ : ∃ z, z = textD m d := ⟨_, rfl⟩
  obtain ⟨U, hU⟩ : ∃ z, z = textD m e := ⟨_, rfl⟩
  obtain ⟨b, hb⟩ : ∃ b, b = smallF m d := ⟨_, rfl⟩
  obtain ⟨b', hb'⟩ : ∃ b, b = smallF m e := ⟨_, rfl⟩
  rw [← hq0, ← hz1, ← hz2, ← hT, ← hU, ← hb, ← hb'] at HC
  rw [← hq0, ← hz1, ← hz2, ← hT, ← hU] at HEQ
  rw [← hz1, ← hz2, ← hT, ← hU] at HBAD
  rw [← hb, ← hb'] at HS
  unfold datV datCs at HS HC
  unfold datV datCs
  obtain ⟨k, hk⟩ : ∃ k, k = kD d := ⟨_, rfl⟩
  obtain ⟨n, hn⟩ : ∃ k, k = nD d := ⟨_, rfl⟩
  obtain ⟨s, hs⟩ : ∃ k, k = sD d := ⟨_, rfl⟩
  obtain ⟨x, hx⟩ : ∃ k, k = (iD d).length := ⟨_, rfl⟩
  obtain ⟨y, hy⟩ : ∃ k, k = (mD d).length := ⟨_, rfl⟩
  obtain ⟨k2, hk2⟩ : ∃ k, k = kD e := ⟨_, rfl⟩
  obtain ⟨n2, hn2⟩ : ∃ k, k = nD e := ⟨_, rfl⟩
  obtain ⟨s2, hs2⟩ : ∃ k, k = sD e := ⟨_, rfl⟩
  obtain ⟨x2, hx2⟩ : ∃ k, k = (iD e).length := ⟨_, rfl⟩
  obtain ⟨y2, hy2⟩ : ∃ k, k = (mD e).length := ⟨_, rfl⟩
  rw [← hk, ← hn, ← hs, ← hx, ← hy, ← hk2, ← hn2, ← hs2, ← hx2, ← hy2] at HS HC ⊢
  clear hp hq hq0 hz1 hz2 hT hU hb hb' hk hn hs hx hy hk2 hn2 hs2 hx2 hy2 ht
  go_enter Tryd.func11, Tryd.ntmps11
  go_upto_region 1 with fail
  obtain ⟨w1, g, e1, e2, hB1, _, _, _, _, _, hR1⟩ := boxD w k n s (.slice A x c) (.slice A' y c')
  obtain ⟨w2, g2, e3, e4, hB2, _, _, _, _, _, hR2⟩ := boxD w1 k2 n2 s2 (.slice E x2 f) (.slice E' y2 f')
  have e5 : g + 1 = g2 := by rw [← e4, ← e1, ← e2]; simp
  rw [e1, e2, e3, e5]
  have HB2 := hide (hB1.trans (hB2.mono hB1.size))
  have HRR := hide fun W (h : Below w2.heap.size w2 W) => And.intro (row5 ((hR1.below hB2).below h)) (row5 (hR2.below h))
  have HBW := hide fun W (h : Below w2.heap.size w2 W) => HB2.out.trans (h.mono HB2.out.size)
  have HX0 := hide (Below.refl w2.heap.size w2)
  obtain ⟨⟨z0, z1', z2', z3, z4⟩, v0, v1, v2, v3, v4⟩ := HRR.out _ HX0.out
  clear e1 e2 e3 e4 e5 hB1 hB2 hR1 hR2
  go_wp2_with fail
  refine (HS.out _ (HBW.out _ HX0.out)).1.mono ?_; rintro r wz0 ⟨rfl, hBz⟩
  have HX1 := hide (HX0.out.trans (hBz.mono HX0.out.size))
  clear hBz z0 z1' z2' z3 z4 v0 v1 v2 v3 v4
  obtain ⟨⟨z0, z1', z2', z3, z4⟩, v0, v1, v2, v3, v4⟩ := HRR.out _ HX1.out
  cases b with
  | false =>
    go_wp2_with fail
    refine (HA.out _ (HBW.out _ HX1.out)).mono ?_; rintro r wz ⟨rfl, hBz⟩
    have HBZ := hide (HBW.out _ (HX1.out.trans (hBz.mono HX1.out.size)))
    clear hBz
    go_wp2_with fail
    go_ret
    exact ⟨rfl, HBZ.out⟩
  | true =>
    go_wp2_with fail
    refine (HS.out _ (HBW.out _ HX1.out)).2.mono ?_; rintro r wz1 ⟨rfl, hBz⟩
    have HX2 := hide (HX1.out.trans (hBz.mono HX1.out.size))
    clear hBz z0 z1' z2' z3 z4 v0 v1 v2 v3 v4
    obtain ⟨⟨z0, z1', z2', z3, z4⟩, v0, v1, v2, v3, v4⟩ := HRR.out _ HX2.out
    cases b' with
    | false =>
      go_wp2_with fail
      refine (HA.out _ (HBW.out _ HX2.out)).mono ?_; rintro r wz ⟨rfl, hBz⟩
      have HBZ := hide (HBW.out _ (HX2.out.trans (hBz.mono HX2.out.size)))
      clear hBz
      go_wp2_with fail
      go_ret
      exact ⟨rfl, HBZ.out⟩
    | true =>
      have HC1 := hide (HC.out (by trivial) (by trivial))
      clear HC HS
      go_wp2_with fail
      refine (HC1.out _ (HBW.out _ HX2.out)).1.mono ?_; rintro r wz2 ⟨rfl, hBz⟩
      have HX3 := hide (HX2.out.trans (hBz.mono HX2.out.size))
      clear hBz z0 z1' z2' z3 z4 v0 v1 v2 v3 v4
      obtain ⟨⟨z0, z1', z2', z3, z4⟩, v0, v1, v2, v3, v4⟩ := HRR.out _ HX3.out
      go_wp2_with fail
      refine (HC1.out _ (HBW.out _ HX3.out)).2.1.mono ?_; rintro r wz3 ⟨rfl, hBz⟩
      have HX4 := hide (HX3.out.trans (hBz.mono HX3.out.size))
      clear hBz z0 z1' z2' z3 z4 v0 v1 v2 v3 v4
      obtain ⟨⟨z0, z1', z2', z3, z4⟩, v0, v1, v2, v3, v4⟩ := HRR.out _ HX4.out
      have l1 : z1 ≠ 0 → T = ByteArray.empty := HBAD.out.1
      have l2 : z2 ≠ 0 → U = ByteArray.empty := HBAD.out.2
      have hE := HEQ.out
      by_cases y1 : z1 = 0
      · subst y1
        by_cases y2 : z2 = 0
        · subst y2
          obtain ⟨q', rfl, hq2⟩ := hE rfl rfl
          clear hE l1 l2 HBAD HEQ
          have gq : (q == q) = true := by simp
          go_wp2_with fail
          refine (HC1.out _ (HBW.out _ HX4.out)).2.2.mono ?_; rintro r wz4 ⟨rfl, hBz⟩
          have HX5 := hide (HX4.out.trans (hBz.mono HX4.out.size))
          clear hBz z0 z1' z2' z3 z4 v0 v1 v2 v3 v4
          go_wp2_with fail
          refine (HA.out _ (HBW.out _ HX5.out)).mono ?_; rintro r wz ⟨rfl, hBz⟩
          have HBZ := hide (HBW.out _ (HX5.out.trans (hBz.mono HX5.out.size)))
          clear hBz
          go_wp2_with fail
          go_ret
          exact ⟨rfl, HBZ.out⟩
        · have lU := l2 y2
          subst lU
          have g2 : (z2 != 0) = true := by simpa using y2
          have g3 : (z2 == 0) = false := by simpa using y2
          clear hE l1 l2 HBAD HEQ y2
          go_wp2_with fail
          refine (HA.out _ (HBW.out _ HX4.out)).mono ?_; rintro r wz ⟨rfl, hBz⟩
          have HBZ := hide (HBW.out _ (HX4.out.trans (hBz.mono HX4.out.size)))
          clear hBz
          go_wp2_with fail
          go_ret
          exact ⟨rfl, HBZ.out⟩
      · have lT := l1 y1
        subst lT
        have g1 : (z1 != 0) = true := by simpa using y1
        have g1' : (z1 == 0) = false := by simpa using y1
        by_cases y2 : z2 = 0
        · subst y2
          clear hE l1 l2 HBAD HEQ y1
          go_wp2_with fail
          refine (HA.out _ (HBW.out _ HX4.out)).mono ?_; rintro r wz ⟨rfl, hBz⟩
          have HBZ := hide (HBW.out _ (HX4.out.trans (hBz.mono HX4.out.size)))
          clear hBz
          go_wp2_with fail
          go_ret
          exact ⟨rfl, HBZ.out⟩
        · have lU := l2 y2
          subst lU
          have g2 : (z2 != 0) = true := by simpa using y2
          have g3 : (z2 == 0) = false := by simpa using y2
          clear hE l1 l2 HBAD HEQ y1 y2
          go_wp2_with fail
          refine (HA.out _ (HBW.out _ HX4.out)).mono ?_; rintro r wz ⟨rfl, hBz⟩
          have HBZ := hide (HBW.out _ (HX4.out.trans (hBz.mono HX4.out.size)))
          clear hBz
          go_wp2_with fail
          go_ret
          exact ⟨rfl, HBZ.out⟩
end Go.Proofs.YtajpgmacabeeeaaDoor
