/- The law of differences. -/
import Derived.Test.YtmmbbndoimleaaaGreatDoorGAM
import Derived.Test.YtmmbbndoimleaaaGreatDoorGAQ
import Derived.Test.YtmmbbndoimleaaaGreatDoorGAI

/- The law of differences. -/
namespace Go.Proofs.YtmmbbndoimleaaaGreatDoor
open Go.RowKit

theorem jtD_same {m : Nat} {d e : Dt} (hd : Deep m d) (he : Deep m e) (h1 : checkD d = 0) (h2 : checkD e = 0) : ((jtD false m d).toList == (jtD false m e).toList) = sameF m d e := by
  unfold jtD
  rw [if_pos h1, if_pos h2]
  exact doc_same hd he h1 h2
theorem jtD_byte {m : Nat} {d : Dt} (h : checkD d = 0) : ∀ (i : Nat) (hi : i < (jtD false m d).size), 32 ≤ ((jtD false m d)[i]).toNat ∧ ((jtD false m d)[i]).toNat ≤ 126 := by
  unfold jtD
  rw [if_pos h]
  exact fun i hi => doc_byte h hi

theorem jtD_size {m : Nat} {d : Dt} (h : jbF m d ≤ 1000000000) : (jtD false m d).size ≤ 1000000000 := by
  unfold jtD
  split
  · rename_i hz
    exact Nat.le_trans (jtF_le false m 16 0 d (by omega) hz) h
  · show 0 ≤ _; omega
set_option maxRecDepth 20000 in
set_option maxHeartbeats 2000000 in
theorem Differs_law (m : Nat) (d : Dt) (A : Option Addr) (c : Nat) (A' : Option Addr) (c' : Nat) (e : Dt) (E : Option Addr) (f : Nat) (E' : Option Addr) (f' : Nat) (w : World) (hp : Parts w w.heap.size m d A c A' c') (hq : Parts w w.heap.size m e E f E' f') (ht : Tab w) :
    Calls Tryz.prog 6 #[datV d A c A' c', datV e E f E' f'] w (JFine w) := by
  have HS := hide fun w' (hB : Below w.heap.size w w') => And.intro (Small_run m d A c A' c' w' (hp.turn (Same.of_below hB) hB.size)) (Small_run m e E f E' f' w' (hq.turn (Same.of_below hB) hB.size))
  have HE := hide fun w' (hB : Below w.heap.size w w') => jexample_run w' (tab_below ht hB)
  have HCK := hide fun w' (hB : Below w.heap.size w w') => And.intro (refCheck_run m d A c A' c' w' (hp.turn (Same.of_below hB) hB.size)) (refCheck_run m e E f E' f' w' (hq.turn (Same.of_below hB) hB.size))
  have HT := hide fun (h : smallF m d = true) (h' : smallF m e = true) w' (hB : Below w.heap.size w w') =>
    And.intro (jText_run m d A c A' c' w' (hp.turn (Same.of_below hB) hB.size) (fit_of_parts m 16 hp (by have := small_parts hp h; omega)) (small_jb hp h) (tab_below ht hB))
      (And.intro (jText_run m e E f E' f' w' (hq.turn (Same.of_below hB) hB.size) (fit_of_parts m 16 hq (by have := small_parts hq h'; omega)) (small_jb hq h') (tab_below ht hB))
      (same_run m d A c A' c' e E f E' f' w' (hp.turn (Same.of_below hB) hB.size) (hq.turn (Same.of_below hB) hB.size)))
  have HTS := hide fun (h : smallF m d = true) => jtD_size (small_jb hp h)
  have HEQ := hide fun (h1 : checkD d = 0) (h2 : checkD e = 0) => And.intro (jtD_same (parts_deep hp) (parts_deep hq) h1 h2) (jtD_byte (m := m) h1)
  obtain ⟨q, hq0⟩ : ∃ z, z = sameF m d e := ⟨_, rfl⟩
  obtain ⟨z1, hz1⟩ : ∃ z, z = checkD d := ⟨_, rfl⟩
  obtain ⟨z2, hz2⟩ : ∃ z, z = checkD e := ⟨_, rfl⟩
  obtain ⟨T, hT⟩ : ∃ z, z = jtD false m d := ⟨_, rfl⟩
  obtain ⟨U, hU⟩ : ∃ z, z = jtD false m e := ⟨_, rfl⟩
  obtain ⟨b, hb⟩ : ∃ b, b = smallF m d := ⟨_, rfl⟩
  obtain ⟨b', hb'⟩ : ∃ b, b = smallF m e := ⟨_, rfl⟩
  rw [← hq0, ← hz1, ← hz2, ← hT, ← hU, ← hb, ← hb'] at HT
  rw [← hq0, ← hz1, ← hz2, ← hT, ← hU] at HEQ
  rw [← hT, ← hb] at HTS
  rw [← hz1, ← hz2] at HCK
  rw [← hb, ← hb'] at HS
  unfold datV datCs at HS HCK HT
  unfold datV datCs
  obtain ⟨k, hk⟩ : ∃ k, k = kD d := ⟨_, rfl⟩
  obtain ⟨n, hn⟩ : ∃ k, k = nD d := ⟨_, rfl⟩
  obtain ⟨s, hs⟩ : ∃ k, k = sD d := ⟨_, rfl⟩
  obtain ⟨x, hx⟩ : ∃ k, k = (iD d).length := ⟨_, rfl⟩
  obtain ⟨y, hy⟩ : ∃ k, k = (mD d).length := ⟨_, rfl⟩
  obtain ⟨k2, hk2⟩ : ∃ k, k = kD e := ⟨_, rfl⟩
  obtain ⟨n2, hn2⟩ : ∃ k, k = nD e := ⟨_, rfl⟩
  obtain ⟨s2, hs2⟩ : ∃ k, k = sD e := ⟨_, rfl⟩
  obtain ⟨x2, hx2⟩ : ∃ k, k = (iD e).length := ⟨_, rfl⟩
  obtain ⟨y2, hy2⟩ : ∃ k, k = (mD e).length := ⟨_, rfl⟩
  rw [← hk, ← hn, ← hs, ← hx, ← hy, ← hk2, ← hn2, ← hs2, ← hx2, ← hy2] at HS HCK HT ⊢
  clear hp hq hq0 hz1 hz2 hT hU hb hb' hk hn hs hx hy hk2 hn2 hs2 hx2 hy2 ht
  go_enter Tryz.func6, Tryz.ntmps6
  go_upto_region 1 with fail
  obtain ⟨w1, g, e1, e2, hB1, _, _, _, _, _, hR1⟩ := boxD w k n s (.slice A x c) (.slice A' y c')
  obtain ⟨w2, g2, e3, e4, hB2, _, _, _, _, _, hR2⟩ := boxD w1 k2 n2 s2 (.slice E x2 f) (.slice E' y2 f')
  have e5 : g + 1 = g2 := by rw [← e4, ← e1, ← e2]; simp
  rw [e1, e2, e3, e5]
  have HB2 := hide (hB1.trans (hB2.mono hB1.size))
  have HRR := hide fun W (h : Below w2.heap.size w2 W) => And.intro (row5 ((hR1.below hB2).below h)) (row5 (hR2.below h))
  have HBW := hide fun W (h : Below w2.heap.size w2 W) => HB2.out.trans (h.mono HB2.out.size)
  have HX0 := hide (Below.refl w2.heap.size w2)
  obtain ⟨⟨c0, c1, c2, c3, c4⟩, v0, v1, v2, v3, v4⟩ := HRR.out _ HX0.out
  clear e1 e2 e3 e4 e5 hB1 hB2 hR1 hR2
  go_wp2_with fail
  refine (HS.out _ (HBW.out _ HX0.out)).1.mono ?_; rintro r wz0 ⟨rfl, hBz⟩
  have HX1 := hide (HX0.out.trans (hBz.mono HX0.out.size))
  clear hBz c0 c1 c2 c3 c4 v0 v1 v2 v3 v4
  obtain ⟨⟨c0, c1, c2, c3, c4⟩, v0, v1, v2, v3, v4⟩ := HRR.out _ HX1.out
  cases b with
  | false =>
    go_wp2_with fail
    refine (HE.out _ (HBW.out _ HX1.out)).mono ?_; rintro r wz ⟨rfl, hBz⟩
    have HBZ := hide (HBW.out _ (HX1.out.trans (hBz.mono HX1.out.size)))
    clear hBz
    go_wp2_with fail
    go_ret
    exact ⟨rfl, HBZ.out⟩
  | true =>
    go_wp2_with fail
    refine (HS.out _ (HBW.out _ HX1.out)).2.mono ?_; rintro r wz1 ⟨rfl, hBz⟩
    have HX2 := hide (HX1.out.trans (hBz.mono HX1.out.size))
    clear hBz c0 c1 c2 c3 c4 v0 v1 v2 v3 v4
    obtain ⟨⟨c0, c1, c2, c3, c4⟩, v0, v1, v2, v3, v4⟩ := HRR.out _ HX2.out
    cases b' with
    | false =>
      go_wp2_with fail
      refine (HE.out _ (HBW.out _ HX2.out)).mono ?_; rintro r wz ⟨rfl, hBz⟩
      have HBZ := hide (HBW.out _ (HX2.out.trans (hBz.mono HX2.out.size)))
      clear hBz
      go_wp2_with fail
      go_ret
      exact ⟨rfl, HBZ.out⟩
    | true =>
      have HT1 := hide (HT.out (by trivial) (by trivial))
      clear HT HS
      go_wp2_with fail
      refine (HCK.out _ (HBW.out _ HX2.out)).1.mono ?_; rintro r wz2 ⟨rfl, hBz⟩
      have HX3 := hide (HX2.out.trans (hBz.mono HX2.out.size))
      clear hBz c0 c1 c2 c3 c4 v0 v1 v2 v3 v4
      obtain ⟨⟨c0, c1, c2, c3, c4⟩, v0, v1, v2, v3, v4⟩ := HRR.out _ HX3.out
      by_cases y1 : z1 = 0
      · subst y1
        go_wp2_with fail
        refine (HCK.out _ (HBW.out _ HX3.out)).2.mono ?_; rintro r wz3 ⟨rfl, hBz⟩
        have HX4 := hide (HX3.out.trans (hBz.mono HX3.out.size))
        clear hBz c0 c1 c2 c3 c4 v0 v1 v2 v3 v4 HCK
        obtain ⟨⟨c0, c1, c2, c3, c4⟩, v0, v1, v2, v3, v4⟩ := HRR.out _ HX4.out
        by_cases y2 : z2 = 0
        · subst y2
          have HQ := hide (HEQ.out (by trivial) (by trivial))
          have htz : T.size ≤ 1000000000 := HTS.out (by trivial)
          clear HEQ
          go_wp2_with fail
          refine (HT1.out _ (HBW.out _ HX4.out)).1.mono ?_; rintro r wz4 ⟨rfl, hBz⟩
          have HX5 := hide (HX4.out.trans (hBz.mono HX4.out.size))
          clear hBz c0 c1 c2 c3 c4 v0 v1 v2 v3 v4
          obtain ⟨⟨c0, c1, c2, c3, c4⟩, v0, v1, v2, v3, v4⟩ := HRR.out _ HX5.out
          go_wp2_with fail
          refine (HT1.out _ (HBW.out _ HX5.out)).2.1.mono ?_; rintro r wz5 ⟨rfl, hBz⟩
          have HX6 := hide (HX5.out.trans (hBz.mono HX5.out.size))
          clear hBz c0 c1 c2 c3 c4 v0 v1 v2 v3 v4
          obtain ⟨N, hN⟩ : ∃ N, N = T.size := ⟨_, rfl⟩
          have HNN := Lib.hid hN
          have hNI : (T.size : Int) = (N : Int) := by omega
          have hN9 : N ≤ 1000000000 := by omega
          clear hN
          go_wp2_with fail
          go_loopw [9] (fun iv wr => ∃ i : Nat, iv = .int .i64 i ∧ i ≤ N ∧ wr = wz5) (fun iv _ => N - (intOf iv).toNat)
          case atStart => exact ⟨0, rfl, Nat.zero_le _, by first | trivial | rfl⟩
          case round =>
            obtain ⟨i, rfl, hi, rfl⟩ := hrel
            by_cases hlt : i < N
            · have hlt' : i < T.size := by rw [← HNN.out]; exact hlt
              obtain ⟨k1, k2⟩ := HQ.out.2 i hlt'
              obtain ⟨X, hX⟩ : ∃ X, X = (T[i]).toNat := ⟨_, rfl⟩
              rw [← hX] at k1 k2
              have hS2 : (T[i]).toNat = X := hX.symm
              have g1 : decide ((X : Int) < 32) = false := by simp; omega
              have g2 : decide ((X : Int) > 126) = false := by simp; omega
              clear hX
              go_wp2_with fail
              go_roundw
              case rel => exact ⟨i + 1, by go_num, by omega, by first | trivial | rfl⟩
              case measure => simp [intOf]; omega
            · obtain rfl : i = N := by omega
              obtain ⟨⟨c0, c1, c2, c3, c4⟩, v0, v1, v2, v3, v4⟩ := HRR.out _ HX6.out
              have hg := HQ.out.1
              clear HQ
              have gq : (q == q) = true := by simp
              go_wp2_with fail
              refine (HT1.out _ (HBW.out _ HX6.out)).2.2.mono ?_; rintro r wz6 ⟨rfl, hBz⟩
              have HX7 := hide (HX6.out.trans (hBz.mono HX6.out.size))
              clear hBz c0 c1 c2 c3 c4 v0 v1 v2 v3 v4 HT1
              go_wp2_with fail
              refine (HE.out _ (HBW.out _ HX7.out)).mono ?_; rintro r wz ⟨rfl, hBz⟩
              have HBZ := hide (HBW.out _ (HX7.out.trans (hBz.mono HX7.out.size)))
              clear hBz
              go_wp2_with fail
              go_ret
              exact ⟨rfl, HBZ.out⟩
        · have g2 : (z2 != 0) = true := by simpa using y2
          clear y2 HEQ HT1
          go_wp2_with fail
          refine (HE.out _ (HBW.out _ HX4.out)).mono ?_; rintro r wz ⟨rfl, hBz⟩
          have HBZ := hide (HBW.out _ (HX4.out.trans (hBz.mono HX4.out.size)))
          clear hBz
          go_wp2_with fail
          go_ret
          exact ⟨rfl, HBZ.out⟩
      · have g1 : (z1 != 0) = true := by simpa using y1
        clear y1 HEQ HT1 HCK
        go_wp2_with fail
        refine (HE.out _ (HBW.out _ HX3.out)).mono ?_; rintro r wz ⟨rfl, hBz⟩
        have HBZ := hide (HBW.out _ (HX3.out.trans (hBz.mono HX3.out.size)))
        clear hBz
        go_wp2_with fail
        go_ret
        exact ⟨rfl, HBZ.out⟩
end Go.Proofs.YtmmbbndoimleaaaGreatDoor
