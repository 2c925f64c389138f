/- Sorting members: a sorted list takes one member in at its end; Sorting members: two sorted lists side by side are merged in place; Sorting members: symMerge; Sorting members: stable and SortStableFunc; Data made afresh: it stands as long as the blocks behind a bound do; Text of package fixed; Package quote: letter, escape; The iterator of package quote: pieces. -/
import Derived.Test.YtmmbbndoimleaaaGreatDoorHAC
import Derived.Test.YtmmbbndoimleaaaGreatDoorHAA
import Derived.Test.YtmmbbndoimleaaaGreatDoorHAB
import Derived.RangeFuncNested
import Derived.RangeFuncBound
import Derived.RangeFuncCalls
import Derived.RangeFuncLeaves
import Derived.RangeFuncBox
import Derived.RangeFuncFrom
import Derived.OwnWalkIn
import Derived.TacticsInMore
import Derived.LoopNIn
import Derived.LoopIn

/- Sorting members: a sorted list takes one member in at its end. -/
namespace Go.Proofs.YtmmbbndoimleaaaGreatDoor
open Go.RowKit

attribute [local go_sem] add_head
set_option maxRecDepth 100000 in
set_option maxHeartbeats 4000000 in
/-- The list's last member is merged into the others. -/
theorem symLast_run (g cap N a m b : Nat) (P : List Mc) (x : Mc) (A S : List Mc) (rest : List Value) (w : World) (h : SRow w g (P ++ A ++ x :: S) rest) (hA : 1 < A.length) (ha : P.length = a) (hm : a + A.length = m) (hb : m + 1 = b) (hN : (P ++ A ++ x :: S).length = N) (hl : N ≤ 1000000000) (hsA : Sr A) :
    Calls Tryz.prog 108 #[.slice (some ⟨g, 0, none⟩) N cap, .int .i64 a, .int .i64 m, .int .i64 b, .func (.func 70) #[] #[]] w fun e w' => e = .returned (.tuple #[]) ∧ ∃ C, Sorted_ C (A ++ [x]) ∧ SRow w' g (P ++ C ++ S) rest ∧ w.grownBy w' (some g) := by
  have hlen : b + S.length = N := by rw [← hN]; simp; omega
  obtain ⟨la, hla⟩ : ∃ l, l = A.length := ⟨_, rfl⟩
  have w1 : IntKind.i64.wrap ((m : Int) - (a : Int)) = (la : Int) := by rw [IntWalk.i64_in _ (by omega)]; omega
  have w2 : IntKind.i64.wrap ((b : Int) - (m : Int)) = 1 := by rw [IntWalk.i64_in _ (by omega)]; omega
  have g0 : ((la : Int) == 1) = false := beq_false_of_ne (by omega)
  have hmN : m < N := by omega
  have ham : a < m := by omega
  have HS := hide h
  have HSA := hide hsA
  have HLA := hide hla
  clear h hN hsA hla
  go_enter Tryz.func108, Tryz.ntmps108
  go_wp2_with fail
  go_loopw [14, 15, 16] (fun iv jv _ wr => ∃ i j : Nat, iv = .int .i64 i ∧ jv = .int .i64 j ∧ a ≤ i ∧ i ≤ j ∧ j ≤ m ∧ Hid (SRow wr g (P ++ A ++ x :: S) rest) ∧ Hid (w.grownBy wr (some g)) ∧ Hid ((∀ t (h : t < A.length), a + t < i → ltB x.1 A[t].1 = false) ∧ (∀ t (h : t < A.length), j ≤ a + t → ltB x.1 A[t].1 = true))) (fun iv jv _ _ => (intOf jv).toNat - (intOf iv).toNat)
  case atStart => exact ⟨a, m, rfl, rfl, Nat.le_refl _, by omega, Nat.le_refl _, HS, hide (grown_refl _ _), hide ⟨fun t h h' => by omega, fun t h h' => by omega⟩⟩
  case round =>
    clear HS w1 w2
    obtain ⟨i, j, rfl, rfl, hi, hij, hj, hR, hG, hI⟩ := hrel
    by_cases hlt : i < j
    · have e1 : IntKind.i64.wrap ((i : Int) + (j : Int)) = ((i + j : Nat) : Int) := by rw [IntWalk.i64_in _ (by omega)]; omega
      obtain ⟨c, hc⟩ : ∃ c, c = (i + j) / 2 := ⟨_, rfl⟩
      have e2 : ((i : Int) + (j : Int)) / 2 = (c : Int) := by omega
      have hic : i ≤ c := by omega
      have hcj : c < j := by omega
      have hcN : c < N := by omega
      have e3 : IntKind.i64.wrap ((c : Int) + 1) = ((c + 1 : Nat) : Int) := by rw [IntWalk.i64_in _ (by omega)]; omega
      obtain ⟨t, ht⟩ : ∃ t, c = a + t := ⟨c - a, by omega⟩
      have htA : t < A.length := by omega
      obtain ⟨y, hy⟩ : ∃ y, y = A[t] := ⟨_, rfl⟩
      have hx6 := hR.out.at_ (i := m) (e := x) (at_mid (by simp; omega))
      have hy6 := hR.out.at_ (i := c) (e := y) (by rw [hy]; exact at_in (by omega) htA)
      obtain ⟨z, hz⟩ : ∃ z, z = cmpS x.1 y.1 := ⟨_, rfl⟩
      have HC := hide fun w => lab_run x y w
      rw [← hz] at HC
      unfold mcV mcs at HC
      have HSC := hide fun W (h : Below wr.heap.size wr W) => And.intro (hide (hR.out.below h)) (hide (grown_below hG.out h (Nat.le_refl _)))
      obtain ⟨y0, y1, y2, y3, y4, y5⟩ := hy6
      obtain ⟨x0, x1, x2, x3, x4, x5⟩ := hx6
      have HT := hide (And.intro hc ht)
      clear hc ht
      by_cases hyx : ltB x.1 y.1 = true
      · have g2 : decide ((z : Int) < 0) = true := by rw [hz, cmpS_lt hyx]; rfl
        have HI := hide (show (∀ t (h : t < A.length), a + t < i → ltB x.1 A[t].1 = false) ∧ (∀ t (h : t < A.length), c ≤ a + t → ltB x.1 A[t].1 = true) from
          ⟨hI.out.1, fun t' h' hc' => by
            have := HT.out.2
            exact lt_of_lt_le (by rw [← hy]; exact hyx) (sr_at HSA.out (s := t) (t := t') (by omega) h')⟩)
        clear hI hz hG hR hy
        go_wp2_with fail
        refine wp_region_still_tail 9 (by kernel_rfl) (by kernel_rfl) ?_
        simp only [List.take_succ_cons, List.take_zero, List.drop_succ_cons, List.drop_zero]
        repeat (first
          | still_step
          | (with_reducible refine wpStill_want ?_ (fun K hK => ?_); kernel_rfl; go_simp; refine hK _ ?_; clear hK K))
        refine wpStill_nil ?_
        go_wp2_with fail
        refine (HC.out _).mono ?_; rintro e w3 ⟨rfl, hB3⟩
        obtain ⟨HS3, HG3⟩ := HSC.out _ ((Below.refl _ _).drew.trans hB3)
        clear HSC HC hB3 y0 y1 y2 y3 y4 y5 x0 x1 x2 x3 x4 x5
        go_wp2_with fail
        go_roundw
        case rel => exact ⟨i, c, rfl, rfl, hi, hic, by omega, HS3, HG3, HI⟩
        case measure => simp [intOf]; omega
      · have hyx : ltB x.1 y.1 = false := by simpa using hyx
        have g2 : decide ((z : Int) < 0) = false := by rw [hz]; have := cmpS_ge hyx; simp; omega
        have HI := hide (show (∀ t (h : t < A.length), a + t < c + 1 → ltB x.1 A[t].1 = false) ∧ (∀ t (h : t < A.length), j ≤ a + t → ltB x.1 A[t].1 = true) from
          ⟨fun t' h' hc' => by
            have := HT.out.2
            exact leK_trans (k := lab) (sr_at HSA.out (s := t') (t := t) (by omega) htA) (by rw [← hy]; exact hyx), hI.out.2⟩)
        clear hI hz hG hR hy
        go_wp2_with fail
        refine wp_region_still_tail 9 (by kernel_rfl) (by kernel_rfl) ?_
        simp only [List.take_succ_cons, List.take_zero, List.drop_succ_cons, List.drop_zero]
        repeat (first
          | still_step
          | (with_reducible refine wpStill_want ?_ (fun K hK => ?_); kernel_rfl; go_simp; refine hK _ ?_; clear hK K))
        refine wpStill_nil ?_
        go_wp2_with fail
        refine (HC.out _).mono ?_; rintro e w3 ⟨rfl, hB3⟩
        obtain ⟨HS3, HG3⟩ := HSC.out _ ((Below.refl _ _).drew.trans hB3)
        clear HSC HC hB3 y0 y1 y2 y3 y4 y5 x0 x1 x2 x3 x4 x5
        go_wp2_with fail
        go_roundw
        case rel => exact ⟨c + 1, j, by go_num, rfl, by omega, by omega, hj, HS3, HG3, HI⟩
        case measure => simp [intOf]; omega
    · obtain rfl : i = j := by omega
      obtain ⟨t, ht⟩ : ∃ t, i = a + t := ⟨i - a, by omega⟩
      obtain ⟨B1, hB1⟩ : ∃ l, l = A.take t := ⟨_, rfl⟩
      obtain ⟨B2, hB2⟩ : ∃ l, l = A.drop t := ⟨_, rfl⟩
      have hBB : B1 ++ B2 = A := by rw [hB1, hB2, List.take_append_drop]
      have htl : t ≤ A.length := by have := HLA.out; omega
      have hl1 : B1.length = t := by rw [hB1, List.length_take]; omega
      have hl2 : B2.length = A.length - t := by rw [hB2, List.length_drop]
      have hlo : ∀ y ∈ B1, ltB x.1 y.1 = false := fun y hy => by
        rw [hB1] at hy
        obtain ⟨s, hs, rfl⟩ := List.getElem_of_mem hy
        rw [List.length_take] at hs
        rw [List.getElem_take]
        exact hI.out.1 s (by omega) (by omega)
      have hhi : ∀ y ∈ B2, ltB x.1 y.1 = true := fun y hy => by
        rw [hB2] at hy
        obtain ⟨s, hs, rfl⟩ := List.getElem_of_mem hy
        rw [List.length_drop] at hs
        rw [List.getElem_drop]
        exact hI.out.2 (t + s) (by omega) (by omega)
      have HEND := hide (show Sorted_ (B1 ++ x :: B2) (A ++ [x]) from
        ⟨srt_put (by rw [hBB]; exact HSA.out) hlo hhi, by
          have := sta_put (C1 := B1) (C2 := B2) (x := x) (R := []) (M := A ++ [x]) (by rw [hBB]; exact StaK.refl _) hhi
          simpa using this, by rw [← hBB]; simp <;> omega⟩)
      have HS1 := hide (show SRow wr g (P ++ B1 ++ (B2.take (m - i) ++ x :: B2.drop (m - i)) ++ S) rest by
        rw [show m - i = B2.length by omega, List.take_length, List.drop_length]
        rw [← hBB] at hR; simpa using hR.out)
      have HL := hide (show a + B1.length = i ∧ i + B2.length = m from ⟨by omega, by omega⟩)
      clear hR hI hB1 hB2 hBB hlo hhi ht hl1 hl2 htl hm
      go_wp2_with fail
      go_loopw [17] (fun kv wk => ∃ k : Nat, kv = .int .i64 k ∧ i ≤ k ∧ k ≤ m ∧ Hid (w.grownBy wk (some g)) ∧ Hid (SRow wk g (P ++ B1 ++ (B2.take (k - i) ++ x :: B2.drop (k - i)) ++ S) rest)) (fun kv _ => (intOf kv).toNat)
      case atStart => exact ⟨m, rfl, by omega, Nat.le_refl _, hG, HS1⟩
      case round =>
        clear HS1 hG
        obtain ⟨k, rfl, hk, hkm, hG, hR⟩ := hrel
        by_cases hkl : i < k
        · have e3 : IntKind.i64.wrap ((k : Int) - 1) = ((k - 1 : Nat) : Int) := by rw [IntWalk.i64_in _ (by omega)]; omega
          obtain ⟨p, hp⟩ : ∃ p, p = k - 1 := ⟨_, rfl⟩
          rw [← hp] at e3
          have hkp : p < k := by omega
          have hkp6 : p * 6 + 6 ≤ k * 6 := by omega
          have hkN : k < N := by omega
          have hpN : p < N := by omega
          have g3 : decide ((k : Int) > (i : Int)) = true := by simp; omega
          obtain ⟨n, hn⟩ : ∃ n, n = p - i := ⟨_, rfl⟩
          have hn1 : n < B2.length := by have := HL.out.2; omega
          obtain ⟨y, hy⟩ : ∃ y, y = B2[n] := ⟨_, rfl⟩
          have hr := hR.out
          rw [show k - i = n + 1 by omega, List.take_add_one, List.getElem?_eq_getElem hn1, ← hy, show P ++ B1 ++ (B2.take n ++ (some y).toList ++ x :: B2.drop (n + 1)) ++ S = (P ++ B1 ++ B2.take n) ++ y :: x :: (B2.drop (n + 1) ++ S) by simp] at hr
          have hAl : (P ++ B1 ++ B2.take n).length = p := by have := HL.out.1; simp [List.length_take]; omega
          have hY := at_mid (A := P ++ B1 ++ B2.take n) (x := y) (C := x :: (B2.drop (n + 1) ++ S)) hAl
          have hX := at_two (A := P ++ B1 ++ B2.take n) (x := y) (y := x) (C := B2.drop (n + 1) ++ S) (i := k) (by rw [hAl]; omega)
          have hsw := hr.swp_ hX hY
          have hx6 := hr.at_ hX
          have hy6 := hr.at_ hY
          rw [swp_back _ _ _ _ k p (by rw [hAl]; omega) hAl.symm, show (P ++ B1 ++ B2.take n) ++ x :: y :: (B2.drop (n + 1) ++ S) = P ++ B1 ++ (B2.take (k - 1 - i) ++ x :: B2.drop (k - 1 - i)) ++ S by
            rw [show k - 1 - i = n by omega, drop_at hn1, ← hy]; simp] at hsw
          have hgr := hG.out.trans hsw.2
          have hsw := hsw.1
          dsimp only [put6] at hsw hgr
          have HSW := hide hsw.drew
          have HGR := hide (grown_drew hgr)
          obtain ⟨f0, f1, f2, f3, f4, f5⟩ := hr.free (k * 6)
          obtain ⟨k0, k1, k2, k3, k4, k5⟩ := hr.free (p * 6)
          have HP := hide hp
          clear hsw hgr hr hX hY hAl hy hn1 hn hR hG hp
          obtain ⟨y0, y1, y2, y3, y4, y5⟩ := hy6
          obtain ⟨x0, x1, x2, x3, x4, x5⟩ := hx6
          go_wp2_with fail
          go_region
          all_goals go_wp2_with fail
          all_goals
            go_roundw
            case rel => exact ⟨k - 1, by rw [HP.out], by omega, by omega, HGR, HSW⟩
            case measure => simp [intOf]; have := HP.out; omega
        · obtain rfl : k = i := by omega
          have g3 : decide ((k : Int) > (k : Int)) = false := by simp
          have HE := hide (show SRow wr g (P ++ (B1 ++ x :: B2) ++ S) rest by
            have := hR.out
            rw [Nat.sub_self] at this
            simpa using this)
          clear hR
          go_wp2_with fail
          refine bodyPost_ret (results_none rfl _ _ _) rfl ?_
          exact ⟨rfl, _, HEND.out, HE.out, hG.out⟩
end Go.Proofs.YtmmbbndoimleaaaGreatDoor

/- Sorting members: two sorted lists side by side are merged in place. -/
namespace Go.Proofs.YtmmbbndoimleaaaGreatDoor
open Go.RowKit

/-- Where the two lists are cut. -/
theorem sym_join {A1 A2 B1 B2 C1 C2 : List Mc} (hA : Sr (A1 ++ A2)) (hB : Sr (B1 ++ B2)) (h1 : Sorted_ C1 (A1 ++ B1)) (h2 : Sorted_ C2 (A2 ++ B2))
    (hlt : ∀ u ∈ B1, ∀ v ∈ A2, ltB u.1 v.1 = true) (hle : ∀ u ∈ A1, ∀ v ∈ B2, leK lab u v) : Sorted_ (C1 ++ C2) ((A1 ++ A2) ++ (B1 ++ B2)) := by
  refine ⟨List.pairwise_append.2 ⟨h1.1, h2.1, fun u hu v hv => ?_⟩, ?_, by have := h1.2.2; have := h2.2.2; simp at *; omega⟩
  · rcases List.mem_append.1 (h1.2.1.mem hu) with hu | hu
    · rcases List.mem_append.1 (h2.2.1.mem hv) with hv | hv
      · exact (List.pairwise_append.1 hA).2.2 u hu v hv
      · exact hle u hu v hv
    · rcases List.mem_append.1 (h2.2.1.mem hv) with hv | hv
      · exact leK_of_lt (k := lab) (hlt u hu v hv)
      · exact (List.pairwise_append.1 hB).2.2 u hu v hv
  · have e1 := h1.2.1.append h2.2.1
    have e2 := ((StaK.refl (k := lab) A1).append (StaK.flip (k := lab) (A := A2) (B := B1) fun u hu v hv => (ltB_ne (hlt v hv u hu)).symm)).append (StaK.refl B2)
    have e3 := e1.trans (c := A1 ++ (B1 ++ A2) ++ B2) (by simpa using StaK.refl _)
    simpa using e3.trans e2
theorem sorted_one {A : List Mc} (h : Sr A) : Sorted_ A A := ⟨h, StaK.refl _, rfl⟩
/-- What the search of the cut has found. -/
def Cut (A B : List Mc) (a m n s r lo hi : Nat) : Prop :=
  (∀ c t u, lo ≤ c → c < s → c = a + t → n - 1 - c = m + u → ∀ (ht : t < A.length) (hu : u < B.length), ltB B[u].1 A[t].1 = false) ∧
  (∀ c t u, r ≤ c → c < hi → c = a + t → n - 1 - c = m + u → ∀ (ht : t < A.length) (hu : u < B.length), ltB B[u].1 A[t].1 = true)
theorem Cut.fin {A B : List Mc} {a m b n mid s lo hi : Nat} (h : Cut A B a m n s s lo hi) (hA : Sr A) (hB : Sr B) (ham : m = a + A.length) (hmb : b = m + B.length) (hn : n = mid + m) (hmid : mid = (a + b) / 2)
    (hlo : lo ≤ s) (hhi : s ≤ hi) (hc : mid < m ∧ lo = n - b ∧ hi = mid ∨ m ≤ mid ∧ lo = a ∧ hi = m) :
    a ≤ s ∧ s ≤ m ∧ m ≤ n - s ∧ n - s ≤ b ∧ s ≤ mid ∧ mid ≤ n - s ∧ (∀ u ∈ B.take (n - s - m), ∀ v ∈ A.drop (s - a), ltB u.1 v.1 = true) ∧ (∀ u ∈ A.take (s - a), ∀ v ∈ B.drop (n - s - m), leK lab u v) := by
  have hb : a ≤ s ∧ s ≤ m ∧ m ≤ n - s ∧ n - s ≤ b ∧ s ≤ mid ∧ mid ≤ n - s := by
    rcases hc with ⟨h1, rfl, rfl⟩ | ⟨h1, rfl, rfl⟩ <;> omega
  refine ⟨hb.1, hb.2.1, hb.2.2.1, hb.2.2.2.1, hb.2.2.2.2.1, hb.2.2.2.2.2, fun u hu v hv => ?_, fun u hu v hv => ?_⟩
  · obtain ⟨p, hp, rfl⟩ := List.getElem_of_mem hu
    obtain ⟨q, hq, rfl⟩ := List.getElem_of_mem hv
    rw [List.length_take] at hp
    rw [List.length_drop] at hq
    rw [List.getElem_take, List.getElem_drop]
    have hsh : s < hi := by rcases hc with ⟨h1, rfl, rfl⟩ | ⟨h1, rfl, rfl⟩ <;> omega
    have hl := h.2 s (s - a) (n - 1 - s - m) (Nat.le_refl _) hsh (by omega) (by omega) (by omega) (by omega)
    exact lt_of_le_lt (sr_at hB (s := p) (t := n - 1 - s - m) (by omega) (by omega)) (lt_of_lt_le hl (sr_at hA (s := s - a) (t := s - a + q) (by omega) (by omega)))
  · obtain ⟨p, hp, rfl⟩ := List.getElem_of_mem hu
    obtain ⟨q, hq, rfl⟩ := List.getElem_of_mem hv
    rw [List.length_take] at hp
    rw [List.length_drop] at hq
    rw [List.getElem_take, List.getElem_drop]
    have hsh : lo < s := by rcases hc with ⟨h1, rfl, rfl⟩ | ⟨h1, rfl, rfl⟩ <;> omega
    have hl := h.1 (s - 1) (s - 1 - a) (n - s - m) (by omega) (by omega) (by omega) (by omega) (by omega) (by omega)
    exact leK_trans (k := lab) (sr_at hA (s := p) (t := s - 1 - a) (by omega) (by omega)) (leK_trans (k := lab) hl (sr_at hB (s := n - s - m) (t := n - s - m + q) (by omega) (by omega)))
theorem Cut.low {A B : List Mc} {a m n s r lo hi c : Nat} (h : Cut A B a m n s r lo hi) (hA : Sr A) (hB : Sr B) {t u : Nat} (hct : c = a + t) (hcu : n - 1 - c = m + u) (hn : c < n) (ht : t < A.length) (hu : u < B.length)
    (hlt : ltB B[u].1 A[t].1 = false) : Cut A B a m n (c + 1) r lo hi := by
  refine ⟨fun c' t' u' h1 h2 h3 h4 ht' hu' => ?_, h.2⟩
  exact leK_trans (k := lab) (sr_at hA (s := t') (t := t) (by omega) ht) (leK_trans (k := lab) hlt (sr_at hB (s := u) (t := u') (by omega) hu'))
theorem Cut.high {A B : List Mc} {a m n s r lo hi c : Nat} (h : Cut A B a m n s r lo hi) (hA : Sr A) (hB : Sr B) {t u : Nat} (hct : c = a + t) (hcu : n - 1 - c = m + u) (ht : t < A.length) (hu : u < B.length)
    (hlt : ltB B[u].1 A[t].1 = true) : Cut A B a m n s c lo hi := by
  refine ⟨h.1, fun c' t' u' h1 h2 h3 h4 ht' hu' => ?_⟩
  exact lt_of_le_lt (sr_at hB (s := u') (t := u) (by omega) hu) (lt_of_lt_le hlt (sr_at hA (s := t) (t := t') (by omega) ht'))
theorem cut_start (A B : List Mc) (a m n lo hi : Nat) : Cut A B a m n lo hi lo hi := ⟨fun c t u h1 h2 => by omega, fun c t u h1 h2 => by omega⟩
end Go.Proofs.YtmmbbndoimleaaaGreatDoor

/- Sorting members: symMerge. -/
namespace Go.Proofs.YtmmbbndoimleaaaGreatDoor
open Go.RowKit

attribute [local go_sem] add_head
set_option maxRecDepth 100000 in
set_option maxHeartbeats 8000000 in
/-- Two sorted lists side by side are merged. -/
theorem symMerge_run (g cap N : Nat) (rest : List Value) (hl : N ≤ 1000000000) : ∀ (f : Nat) (P A B S : List Mc) (a m b : Nat) (w : World), A.length + B.length ≤ f → SRow w g (P ++ A ++ B ++ S) rest → 0 < A.length → 0 < B.length → P.length = a → a + A.length = m → m + B.length = b → (P ++ A ++ B ++ S).length = N → Sr A → Sr B →
    Calls Tryz.prog 108 #[.slice (some ⟨g, 0, none⟩) N cap, .int .i64 a, .int .i64 m, .int .i64 b, .func (.func 70) #[] #[]] w fun e w' => e = .returned (.tuple #[]) ∧ ∃ C, Sorted_ C (A ++ B) ∧ SRow w' g (P ++ C ++ S) rest ∧ w.grownBy w' (some g) := by
  intro f
  induction f with
  | zero => intro P A B S a m b w hf _ hA; omega
  | succ f ih =>
    intro P A B S a m b w hf h hA hB ha hm hb hN hsA hsB
    by_cases hA1 : A.length = 1
    · obtain ⟨x, rfl⟩ := List.length_eq_one_iff.1 hA1
      have := symFirst_run g cap N a m b P x B S rest w (by simpa using h) hB ha (by simpa using hm) hb (by simpa using hN) hl hsB
      simpa using this
    by_cases hB1 : B.length = 1
    · obtain ⟨x, rfl⟩ := List.length_eq_one_iff.1 hB1
      have := symLast_run g cap N a m b P x A S rest w (by simpa using h) (by omega) ha hm (by simpa using hb) (by simpa using hN) hl hsA
      simpa using this
    have IH := hide ih
    have hlen : b + S.length = N := by rw [← hN]; simp; omega
    obtain ⟨la, hla⟩ : ∃ l, l = A.length := ⟨_, rfl⟩
    obtain ⟨lb, hlb⟩ : ∃ l, l = B.length := ⟨_, rfl⟩
    have w1 : IntKind.i64.wrap ((m : Int) - (a : Int)) = (la : Int) := by rw [IntWalk.i64_in _ (by omega)]; omega
    have w2 : IntKind.i64.wrap ((b : Int) - (m : Int)) = (lb : Int) := by rw [IntWalk.i64_in _ (by omega)]; omega
    have g0 : ((la : Int) == 1) = false := beq_false_of_ne (by omega)
    have g00 : ((lb : Int) == 1) = false := beq_false_of_ne (by omega)
    have e1 : IntKind.i64.wrap ((a : Int) + (b : Int)) = ((a + b : Nat) : Int) := by rw [IntWalk.i64_in _ (by omega)]; omega
    obtain ⟨md, hmd⟩ : ∃ c, c = (a + b) / 2 := ⟨_, rfl⟩
    have e2 : ((a : Int) + (b : Int)) / 2 = (md : Int) := by omega
    obtain ⟨n, hn⟩ : ∃ n, n = md + m := ⟨_, rfl⟩
    have e3 : IntKind.i64.wrap ((md : Int) + (m : Int)) = (n : Int) := by rw [IntWalk.i64_in _ (by omega)]; omega
    obtain ⟨nb, hnb⟩ : ∃ x, x = n - b := ⟨_, rfl⟩
    have HE4 := hide (show md < m → IntKind.i64.wrap ((n : Int) - (b : Int)) = (nb : Int) from fun h => by rw [IntWalk.i64_in _ (by omega)]; omega)
    obtain ⟨p, hp⟩ : ∃ p, p = n - 1 := ⟨_, rfl⟩
    have e5 : IntKind.i64.wrap ((n : Int) - 1) = (p : Int) := by rw [IntWalk.i64_in _ (by omega)]; omega
    have ham : a < m := by omega
    have hmb : m < b := by omega
    have hamd : a < md := by omega
    have hmdb : md < b := by omega
    have hbN : b ≤ N := by omega
    have HS := hide h
    have HSA := hide hsA
    have HSB := hide hsB
    have HF := hide (show la = A.length ∧ lb = B.length ∧ md = (a + b) / 2 ∧ n = md + m ∧ p = n - 1 ∧ P.length = a ∧ a + A.length = m ∧ m + B.length = b ∧ b + S.length = N ∧ A.length + B.length ≤ f + 1 from ⟨hla, hlb, hmd, hn, hp, ha, hm, hb, hlen, hf⟩)
    have HNB := hide hnb
    have HAB := hide (show md < m → (md < m ∧ nb = n - b ∧ md = md ∨ m ≤ md ∧ nb = a ∧ md = m) ∧ nb ≤ md ∧ a ≤ nb from fun h => ⟨.inl ⟨h, hnb, rfl⟩, by omega, by omega⟩)
    have HN := hide hN
    clear h hsA hsB hla hlb hmd hn hp hnb hN hA1 hB1 hA hB ha hm hb hf ih hlen
    go_enter Tryz.func108, Tryz.ntmps108
    go_upto_if 140 with fail
    go_cut [20, 21] from 140 to 146 (fun sv rv wc => ∃ s r : Nat, sv = .int .i64 s ∧ rv = .int .i64 r ∧ s ≤ r ∧ w = wc ∧ Hid (∃ lo hi, (md < m ∧ lo = n - b ∧ hi = md ∨ m ≤ md ∧ lo = a ∧ hi = m) ∧ lo ≤ s ∧ s ≤ r ∧ r ≤ hi ∧ Cut A B a m n s r lo hi))
    case first =>
      by_cases hmm : md < m
      · have g1 : decide ((m : Int) > (md : Int)) = true := by simp; omega
        have e4 := HE4.out hmm
        have HC := hide (show ∃ lo hi, (md < m ∧ lo = n - b ∧ hi = md ∨ m ≤ md ∧ lo = a ∧ hi = m) ∧ lo ≤ nb ∧ nb ≤ md ∧ md ≤ hi ∧ Cut A B a m n nb md lo hi from
          ⟨nb, md, .inl ⟨hmm, HNB.out, rfl⟩, Nat.le_refl _, (HAB.out hmm).2.1, Nat.le_refl _, cut_start ..⟩)
        have hs0 : nb ≤ md := (HAB.out hmm).2.1
        go_wp2_with fail
        go_meet
        case rel => exact ⟨nb, md, rfl, rfl, hs0, rfl, HC⟩
      · have g1 : decide ((m : Int) > (md : Int)) = false := by simp; omega
        have HC := hide (show ∃ lo hi, (md < m ∧ lo = n - b ∧ hi = md ∨ m ≤ md ∧ lo = a ∧ hi = m) ∧ lo ≤ a ∧ a ≤ m ∧ m ≤ hi ∧ Cut A B a m n a m lo hi from
          ⟨a, m, .inr ⟨by omega, rfl, rfl⟩, Nat.le_refl _, by omega, Nat.le_refl _, cut_start ..⟩)
        go_wp2_with fail
        go_meet
        case rel => exact ⟨a, m, rfl, rfl, by omega, rfl, HC⟩
    case rest =>
      obtain ⟨s0, r0, rfl, rfl, hsr0, rfl, HI0⟩ := hcut
      clear HAB HE4 HNB
      have HG0 := hide (grown_refl w (some g))
      go_wp2_with fail
      go_loopw [20, 21, 23] (fun iv jv _ wr => ∃ s r : Nat, iv = .int .i64 s ∧ jv = .int .i64 r ∧ s ≤ r ∧ Hid (SRow wr g (P ++ A ++ B ++ S) rest) ∧ Hid (w.grownBy wr (some g)) ∧ Hid (∃ lo hi, (md < m ∧ lo = n - b ∧ hi = md ∨ m ≤ md ∧ lo = a ∧ hi = m) ∧ lo ≤ s ∧ s ≤ r ∧ r ≤ hi ∧ Cut A B a m n s r lo hi)) (fun iv jv _ _ => (intOf jv).toNat - (intOf iv).toNat)
      case atStart => exact ⟨s0, r0, rfl, rfl, hsr0, HS, HG0, HI0⟩
      case round =>
        clear HS HG0
        clear HI0
        clear w1 w2 g0 g00 e1 e2 e3 e5 hsr0
        obtain ⟨s, r, rfl, rfl, hsr, hR, hG, hI⟩ := hrel
        obtain ⟨lo, hi, hc, hlo, hsr', hhi, hcut⟩ := hI.out
        obtain ⟨fa, fb, fmd, fn, fp, fP, fA, fB, fS, ff⟩ := HF.out
        by_cases hlt : s < r
        · have e1 : IntKind.i64.wrap ((s : Int) + (r : Int)) = ((s + r : Nat) : Int) := by rw [IntWalk.i64_in _ (by omega)]; omega
          obtain ⟨c, hc'⟩ : ∃ c, c = (s + r) / 2 := ⟨_, rfl⟩
          have e2 : ((s : Int) + (r : Int)) / 2 = (c : Int) := by omega
          have hac : a ≤ c ∧ c < m ∧ m ≤ n - 1 - c ∧ n - 1 - c < b ∧ c < n := by
            rcases hc with ⟨h1, rfl, rfl⟩ | ⟨h1, rfl, rfl⟩ <;> omega
          obtain ⟨q, hq⟩ : ∃ q, q = n - 1 - c := ⟨_, rfl⟩
          have e6 : IntKind.i64.wrap ((p : Int) - (c : Int)) = (q : Int) := by rw [IntWalk.i64_in _ (by omega)]; omega
          have e3 : IntKind.i64.wrap ((c : Int) + 1) = ((c + 1 : Nat) : Int) := by rw [IntWalk.i64_in _ (by omega)]; omega
          have hcN : c < N := by omega
          have hqN : q < N := by omega
          obtain ⟨t, ht⟩ : ∃ t, c = a + t := ⟨c - a, by omega⟩
          obtain ⟨u, hu⟩ : ∃ u, n - 1 - c = m + u := ⟨n - 1 - c - m, by omega⟩
          have htA : t < A.length := by omega
          have huB : u < B.length := by omega
          obtain ⟨x, hx⟩ : ∃ y, y = A[t] := ⟨_, rfl⟩
          obtain ⟨y, hy⟩ : ∃ y, y = B[u] := ⟨_, rfl⟩
          have hx6 := hR.out.at_ (i := c) (e := x) (by rw [hx, List.append_assoc (P ++ A)]; exact at_in (by omega) htA)
          have hy6 := hR.out.at_ (i := q) (e := y) (by rw [hy]; exact at_in (by simp; omega) huB)
          obtain ⟨z, hz⟩ : ∃ z, z = cmpS y.1 x.1 := ⟨_, rfl⟩
          have HC := hide fun w => lab_run y x w
          rw [← hz] at HC
          unfold mcV mcs at HC
          have HSC := hide fun W (h : Below wr.heap.size wr W) => And.intro (hide (hR.out.below h)) (hide (grown_below hG.out h (Nat.le_refl _)))
          obtain ⟨y0, y1, y2, y3, y4, y5⟩ := hy6
          obtain ⟨x0, x1, x2, x3, x4, x5⟩ := hx6
          by_cases hyx : ltB y.1 x.1 = true
          · have g2 : decide ((z : Int) < 0) = true := by rw [hz, cmpS_lt hyx]; rfl
            have HI := hide (show ∃ lo hi, (md < m ∧ lo = n - b ∧ hi = md ∨ m ≤ md ∧ lo = a ∧ hi = m) ∧ lo ≤ s ∧ s ≤ c ∧ c ≤ hi ∧ Cut A B a m n s c lo hi from
              ⟨lo, hi, hc, hlo, by omega, by omega, hcut.high HSA.out HSB.out ht hu htA huB (by rw [← hx, ← hy]; exact hyx)⟩)
            have hsc : s ≤ c := by omega
            have hcr : c < r := by omega
            clear hI hz hG hR hy hx hc hlo hsr' hhi hcut fa fb fmd fn fp fP fA fB fS ff hac hc' hq ht hu htA huB hyx
            go_wp2_with fail
            refine wp_region_still_tail 11 (by kernel_rfl) (by kernel_rfl) ?_
            simp only [List.take_succ_cons, List.take_zero, List.drop_succ_cons, List.drop_zero]
            repeat (first
              | still_step
              | (with_reducible refine wpStill_want ?_ (fun K hK => ?_); kernel_rfl; go_simp; refine hK _ ?_; clear hK K))
            refine wpStill_nil ?_
            go_wp2_with fail
            refine (HC.out _).mono ?_; rintro e w3 ⟨rfl, hB3⟩
            obtain ⟨HS3, HG3⟩ := HSC.out _ ((Below.refl _ _).drew.trans hB3)
            clear HSC HC hB3 y0 y1 y2 y3 y4 y5 x0 x1 x2 x3 x4 x5
            go_wp2_with fail
            go_roundw
            case rel => exact ⟨s, c, rfl, rfl, hsc, HS3, HG3, HI⟩
            case measure => simp [intOf]; omega
          · have hyx : ltB y.1 x.1 = false := by simpa using hyx
            have g2 : decide ((z : Int) < 0) = false := by rw [hz]; have := cmpS_ge hyx; simp; omega
            have HI := hide (show ∃ lo hi, (md < m ∧ lo = n - b ∧ hi = md ∨ m ≤ md ∧ lo = a ∧ hi = m) ∧ lo ≤ c + 1 ∧ c + 1 ≤ r ∧ r ≤ hi ∧ Cut A B a m n (c + 1) r lo hi from
              ⟨lo, hi, hc, by omega, by omega, hhi, hcut.low HSA.out HSB.out ht hu hac.2.2.2.2 htA huB (by rw [← hx, ← hy]; exact hyx)⟩)
            have hsc : s ≤ c := by omega
            have hcr : c + 1 ≤ r := by omega
            clear hI hz hG hR hy hx hc hlo hsr' hhi hcut fa fb fmd fn fp fP fA fB fS ff hac hc' hq ht hu htA huB hyx
            go_wp2_with fail
            refine wp_region_still_tail 11 (by kernel_rfl) (by kernel_rfl) ?_
            simp only [List.take_succ_cons, List.take_zero, List.drop_succ_cons, List.drop_zero]
            repeat (first
              | still_step
              | (with_reducible refine wpStill_want ?_ (fun K hK => ?_); kernel_rfl; go_simp; refine hK _ ?_; clear hK K))
            refine wpStill_nil ?_
            go_wp2_with fail
            refine (HC.out _).mono ?_; rintro e w3 ⟨rfl, hB3⟩
            obtain ⟨HS3, HG3⟩ := HSC.out _ ((Below.refl _ _).drew.trans hB3)
            clear HSC HC hB3 y0 y1 y2 y3 y4 y5 x0 x1 x2 x3 x4 x5
            go_wp2_with fail
            go_roundw
            case rel => exact ⟨c + 1, r, by go_num, rfl, hcr, HS3, HG3, HI⟩
            case measure => simp [intOf]; omega
        · obtain rfl : s = r := by omega
          obtain ⟨b1, b2, b3, b4, b5, b6, hlt12, hle12⟩ := hcut.fin HSA.out HSB.out (by omega) (by omega) fn fmd hlo hhi hc
          obtain ⟨e, he⟩ : ∃ e, e = n - s := ⟨_, rfl⟩
          rw [← he] at b3 b4 b6 hlt12 hle12
          have e1 : IntKind.i64.wrap ((n : Int) - (s : Int)) = (e : Int) := by rw [IntWalk.i64_in _ (by omega)]; omega
          obtain ⟨A1, hA1⟩ : ∃ l, l = A.take (s - a) := ⟨_, rfl⟩
          obtain ⟨A2, hA2⟩ : ∃ l, l = A.drop (s - a) := ⟨_, rfl⟩
          obtain ⟨B1, hB1⟩ : ∃ l, l = B.take (e - m) := ⟨_, rfl⟩
          obtain ⟨B2, hB2⟩ : ∃ l, l = B.drop (e - m) := ⟨_, rfl⟩
          have hAA : A1 ++ A2 = A := by rw [hA1, hA2, List.take_append_drop]
          have hBB : B1 ++ B2 = B := by rw [hB1, hB2, List.take_append_drop]
          rw [← hA1, ← hB2] at hle12
          rw [← hA2, ← hB1] at hlt12
          have l1 : A1.length = s - a := by rw [hA1, List.length_take]; omega
          have l2 : A2.length = m - s := by rw [hA2, List.length_drop]; omega
          have l3 : B1.length = e - m := by rw [hB1, List.length_take]; omega
          have l4 : B2.length = b - e := by rw [hB2, List.length_drop]; omega
          have lm : e - m = md - s := by omega
          have sA : Sr A1 ∧ Sr A2 := by have := HSA.out; rw [← hAA] at this; exact ⟨srt_left' this, (List.pairwise_append.1 this).2.1⟩
          have sB : Sr B1 ∧ Sr B2 := by have := HSB.out; rw [← hBB] at this; exact ⟨srt_left' this, (List.pairwise_append.1 this).2.1⟩
          have HJ := hide fun C1 C2 (h1 : Sorted_ C1 (A1 ++ B1)) (h2 : Sorted_ C2 (A2 ++ B2)) => sym_join (by rw [hAA]; exact HSA.out) (by rw [hBB]; exact HSB.out) h1 h2 hlt12 hle12
          rw [hAA, hBB] at HJ
          have hrow := hR.out
          rw [← hAA, ← hBB] at hrow
          have hN' : (P ++ A1 ++ A2 ++ B1 ++ B2 ++ S).length = N := by simp; omega
          have HROT := hide fun (h1 : s < m) (h2 : m < e) => rotate_run g cap N s m e (P ++ A1) A2 B1 (B2 ++ S) rest (.func (.func 70) #[] #[]) wr (by simpa using hrow) (by omega) (by omega) (by simp; omega) (by simp; omega) (by simp; omega) (by rw [← hN']; simp) hl
          have HNR := hide fun (h : ¬ (s < m ∧ m < e)) => show SRow wr g (P ++ A1 ++ B1 ++ A2 ++ B2 ++ S) rest by
            by_cases h1 : s < m
            · have : B1 = [] := List.eq_nil_of_length_eq_zero (by omega)
              subst this; simpa using hrow
            · have : A2 = [] := List.eq_nil_of_length_eq_zero (by omega)
              subst this; simpa using hrow
          have HR1 := hide fun (h1 : a < s) (h2 : s < md) W (h : SRow W g (P ++ A1 ++ B1 ++ A2 ++ B2 ++ S) rest) => IH.out P A1 B1 (A2 ++ B2 ++ S) a s md W (by omega) (by simpa using h) (by omega) (by omega) fP (by omega) (by omega) (by simp; omega) sA.1 sB.1
          have HN1 := hide fun (h : ¬ (a < s ∧ s < md)) => show Sorted_ (A1 ++ B1) (A1 ++ B1) by
            by_cases h1 : a < s
            · have : B1 = [] := List.eq_nil_of_length_eq_zero (by omega)
              subst this; rw [List.append_nil]; exact sorted_one sA.1
            · have : A1 = [] := List.eq_nil_of_length_eq_zero (by omega)
              subst this; exact sorted_one sB.1
          have HR2 := hide fun (h1 : md < e) (h2 : e < b) C1 (h3 : Sorted_ C1 (A1 ++ B1)) W (h : SRow W g (P ++ C1 ++ A2 ++ B2 ++ S) rest) => IH.out (P ++ C1) A2 B2 S md e b W (by omega) h (by omega) (by omega) (by have := h3.2.2; simp at this ⊢; omega) (by omega) (by omega) (by have := h3.2.2; simp at this ⊢; omega) sA.2 sB.2
          have HN2 := hide fun (h : ¬ (md < e ∧ e < b)) => show Sorted_ (A2 ++ B2) (A2 ++ B2) by
            by_cases h1 : md < e
            · have : B2 = [] := List.eq_nil_of_length_eq_zero (by omega)
              subst this; rw [List.append_nil]; exact sorted_one sA.2
            · have : A2 = [] := List.eq_nil_of_length_eq_zero (by omega)
              subst this; exact sorted_one sB.2
          clear hI hR hc hlo hsr' hhi hcut fa fb fmd fn fp fP fA fB fS ff he hA1 hA2 hB1 hB2 hAA hBB hlt12 hle12 l1 l2 l3 l4 lm sA sB hrow hN' IH
          go_upto_region 39 with fail
          obtain ⟨q1, hq1⟩ : ∃ q, q = decide (s < m ∧ m < e) := ⟨_, rfl⟩
          have HQ1 := Lib.hid hq1
          clear hq1
          go_cut [185] from 178 to 184 (fun v wc => v = .bool q1 ∧ wr = wc)
          case first =>
            clear HROT HNR HR1 HN1 HR2 HN2
            by_cases h1 : s < m
            · by_cases h2 : m < e
              · go_wp2_with fail
                go_meet
                case rel => exact ⟨by rw [HQ1.out, decide_eq_true ⟨h1, h2⟩], rfl⟩
              · go_wp2_with fail
                go_meet
                case rel => exact ⟨by rw [HQ1.out, decide_eq_false fun h => h2 h.2], rfl⟩
            · go_wp2_with fail
              go_meet
              case rel => exact ⟨by rw [HQ1.out, decide_eq_false fun h => h1 h.1], rfl⟩
          case rest =>
            obtain ⟨rfl, rfl⟩ := hcut
            go_upto_if 185 with fail
            go_cut [20] from 185 to 191 (fun sv wc => sv = .int .i64 s ∧ Hid (SRow wc g (P ++ A1 ++ B1 ++ A2 ++ B2 ++ S) rest) ∧ Hid (w.grownBy wc (some g)))
            case first =>
              cases q1 with
              | true =>
                have hq := HQ1.out
                have HC := hide (HROT.out (of_decide_eq_true hq.symm).1 (of_decide_eq_true hq.symm).2)
                clear HROT HNR HR1 HN1 HR2 HN2 hq
                go_wp2_with fail
                refine (HC.out).mono ?_; rintro e' w3 ⟨rfl, hS3, hG3⟩
                go_wp2_with fail
                go_meet
                case rel => exact ⟨rfl, hide (by simpa using hS3), hide (hG.out.trans hG3)⟩
              | false =>
                have hq := HQ1.out
                have HC := hide (HNR.out (of_decide_eq_false hq.symm))
                clear HROT HNR HR1 HN1 HR2 HN2 hq
                go_wp2_with fail
                go_meet
                case rel => exact ⟨rfl, HC, hG⟩
            case rest =>
              obtain ⟨rfl, HS4, HG4⟩ := hcut
              clear HROT HNR hG HQ1
              go_upto_region 41 with fail
              obtain ⟨q2, hq2⟩ : ∃ q, q = decide (a < s ∧ s < md) := ⟨_, rfl⟩
              have HQ2 := Lib.hid hq2
              clear hq2
              obtain ⟨wy, hwy⟩ : ∃ wy, wy = wc := ⟨_, rfl⟩
              rw [← hwy] at HS4 HG4 ⊢
              clear hwy
              go_cut [199] from 192 to 198 (fun v wc => v = .bool q2 ∧ wy = wc)
              case first =>
                clear HR1 HN1 HR2 HN2
                by_cases h1 : a < s
                · by_cases h2 : s < md
                  · go_wp2_with fail
                    go_meet
                    case rel => exact ⟨by rw [HQ2.out, decide_eq_true ⟨h1, h2⟩], rfl⟩
                  · go_wp2_with fail
                    go_meet
                    case rel => exact ⟨by rw [HQ2.out, decide_eq_false fun h => h2 h.2], rfl⟩
                · go_wp2_with fail
                  go_meet
                  case rel => exact ⟨by rw [HQ2.out, decide_eq_false fun h => h1 h.1], rfl⟩
              case rest =>
                obtain ⟨rfl, rfl⟩ := hcut
                go_upto_if 199 with fail
                go_cut [20] from 199 to 205 (fun sv wd => sv = .int .i64 s ∧ Hid (∃ C1, Sorted_ C1 (A1 ++ B1) ∧ SRow wd g (P ++ C1 ++ A2 ++ B2 ++ S) rest) ∧ Hid (w.grownBy wd (some g)))
                case first =>
                  cases q2 with
                  | true =>
                    have hq := HQ2.out
                    have HC := hide (HR1.out (of_decide_eq_true hq.symm).1 (of_decide_eq_true hq.symm).2 _ HS4.out)
                    clear HR1 HN1 HR2 HN2 hq
                    go_wp2_with fail
                    refine (HC.out).mono ?_; rintro e' w3 ⟨rfl, C1, hC1, hS3, hG3⟩
                    go_wp2_with fail
                    go_meet
                    case rel => exact ⟨rfl, hide ⟨C1, hC1, by simpa using hS3⟩, hide (HG4.out.trans hG3)⟩
                  | false =>
                    have hq := HQ2.out
                    have HC := hide (show ∃ C1, Sorted_ C1 (A1 ++ B1) ∧ SRow wy g (P ++ C1 ++ A2 ++ B2 ++ S) rest from ⟨_, HN1.out (of_decide_eq_false hq.symm), by simpa using HS4.out⟩)
                    clear HR1 HN1 HR2 HN2 hq
                    go_wp2_with fail
                    go_meet
                    case rel => exact ⟨rfl, HC, HG4⟩
                case rest =>
                  obtain ⟨rfl, HS5, HG5⟩ := hcut
                  clear HR1 HN1 HS4 HG4 HQ2
                  obtain ⟨C1, hC1, hS5⟩ := HS5.out
                  have HC1 := hide hC1
                  have HS6 := hide (show SRow _ g (P ++ (C1 ++ (A2 ++ B2)) ++ S) rest by simpa using hS5)
                  clear HS5 hC1
                  by_cases h1 : md < e
                  · by_cases h2 : e < b
                    · have HC := hide (HR2.out h1 h2 C1 HC1.out _ hS5)
                      clear HR2 HN2 hS5
                      go_wp2_with fail
                      refine (HC.out).mono ?_; rintro e' w3 ⟨rfl, C2, hC2, hS3, hG3⟩
                      go_wp2_with fail
                      go_end0
                      exact ⟨rfl, C1 ++ C2, HJ.out _ _ HC1.out hC2, by simpa using hS3, HG5.out.trans hG3⟩
                    · have HE := hide (HJ.out _ _ HC1.out (HN2.out fun h => h2 h.2))
                      clear HR2 HN2 hS5
                      go_wp2_with fail
                      go_end0
                      exact ⟨rfl, _, HE.out, HS6.out, HG5.out⟩
                  · have HE := hide (HJ.out _ _ HC1.out (HN2.out fun h => h1 h.1))
                    clear HR2 HN2 hS5
                    go_wp2_with fail
                    go_end0
                    exact ⟨rfl, _, HE.out, HS6.out, HG5.out⟩
end Go.Proofs.YtmmbbndoimleaaaGreatDoor

/- Sorting members: stable and SortStableFunc. -/
namespace Go.Proofs.YtmmbbndoimleaaaGreatDoor
open Go.RowKit

theorem insSort_nil (w : World) : Calls Tryz.prog 107 #[.slice none 0 0, .int .i64 0, .int .i64 0, .func (.func 70) #[] #[]] w fun e w' => e = .returned (.tuple #[]) ∧ w = w' := by
  go_enter Tryz.func107, Tryz.ntmps107
  go_wp2_with fail
  go_loopw [8, 9] (fun iv _ wr => iv = .int .i64 1 ∧ w = wr) (fun _ _ _ => 0)
  case atStart => exact ⟨rfl, rfl⟩
  case round =>
    obtain ⟨rfl, rfl⟩ := hrel
    go_wp2_with fail
    go_end0
    exact ⟨rfl, rfl⟩
set_option maxRecDepth 100000 in
theorem stable_nil (w : World) : Calls Tryz.prog 89 #[.slice none 0 0, .int .i64 0, .func (.func 70) #[] #[]] w fun e w' => e = .returned (.tuple #[]) ∧ w = w' := by
  go_enter Tryz.func89, Tryz.ntmps89
  go_wp2_with fail
  go_loopw [7, 8] (fun av bv wr => av = .int .i64 0 ∧ bv = .int .i64 20 ∧ w = wr) (fun _ _ _ => 0)
  case atStart => exact ⟨rfl, rfl, rfl⟩
  case round =>
    obtain ⟨rfl, rfl, rfl⟩ := hrel
    go_wp2_with fail
    refine (insSort_nil _).mono ?_; rintro e w1 ⟨rfl, rfl⟩
    go_wp2_with fail
    go_loopw [6, 7, 8, 9] (fun v _ _ _ wr => v = .int .i64 20 ∧ w = wr) (fun _ _ _ _ _ => 0)
    case atStart => exact ⟨rfl, rfl⟩
    case round =>
      obtain ⟨rfl, rfl⟩ := hrel
      go_wp2_with fail
      go_end0
      exact ⟨rfl, rfl⟩

/-- Blocks of k members each, sorted. -/
def FullB (k : Nat) (bs : List (List Mc)) : Prop := ∀ b ∈ bs, b.length = k ∧ Sr b
theorem FullB.nil {k : Nat} : FullB k [] := fun b h => by cases h
theorem FullB.snoc {k : Nat} {bs : List (List Mc)} {C : List Mc} (h : FullB k bs) (hl : C.length = k) (hs : Sr C) : FullB k (bs ++ [C]) := fun b hb => by
  rcases List.mem_append.1 hb with hb | hb
  · exact h b hb
  · simp at hb; subst hb; exact ⟨hl, hs⟩
theorem flat_snoc (bs : List (List Mc)) (C : List Mc) : (bs ++ [C]).flatten = bs.flatten ++ C := by simp
def Ph1 (w : World) (g : Nat) (L : List Mc) (rest : List Value) (a : Nat) (wr : World) : Prop :=
  ∃ bs, FullB 20 bs ∧ bs.flatten.length = a ∧ St bs.flatten (L.take a) ∧ SRow wr g (bs.flatten ++ L.drop a) rest ∧ w.grownBy wr (some g)
def Ph2 (w : World) (g : Nat) (L : List Mc) (rest : List Value) (k : Nat) (wr : World) : Prop :=
  ∃ bs r, FullB k bs ∧ r.length < k ∧ Sr r ∧ St (bs.flatten ++ r) L ∧ (bs.flatten ++ r).length = L.length ∧ SRow wr g (bs.flatten ++ r) rest ∧ w.grownBy wr (some g)
def Ph3 (w : World) (g : Nat) (L : List Mc) (rest : List Value) (k a : Nat) (wr : World) : Prop :=
  ∃ ds bs r, FullB (2 * k) ds ∧ FullB k bs ∧ r.length < k ∧ Sr r ∧ ds.flatten.length = a ∧ St (ds.flatten ++ bs.flatten ++ r) L ∧ (ds.flatten ++ bs.flatten ++ r).length = L.length ∧ SRow wr g (ds.flatten ++ bs.flatten ++ r) rest ∧ w.grownBy wr (some g)
theorem ph3_start {w : World} {g : Nat} {L : List Mc} {rest : List Value} {k : Nat} {wr : World} (h : Ph2 w g L rest k wr) : Ph3 w g L rest k 0 wr := by
  obtain ⟨bs, r, h1, h2, h3, h4, h5, h6, h7⟩ := h
  exact ⟨[], bs, r, FullB.nil, h1, h2, h3, rfl, by simpa using h4, by simpa using h5, by simpa using h6, h7⟩
theorem ph2_end {w : World} {g : Nat} {L : List Mc} {rest : List Value} {k : Nat} {wr : World} (h : Ph2 w g L rest k wr) (hk : L.length ≤ k) : ∃ C, Sorted_ C L ∧ SRow wr g C rest ∧ w.grownBy wr (some g) := by
  obtain ⟨bs, r, h1, h2, h3, h4, h5, h6, h7⟩ := h
  refine ⟨_, ⟨?_, h4, h5⟩, h6, h7⟩
  cases bs with
  | nil => simpa using h3
  | cons X bs =>
    have hX := h1 X (List.mem_cons_self ..)
    simp only [List.flatten_cons, List.length_append] at h5
    have hr : r = [] := List.eq_nil_of_length_eq_zero (by omega)
    have hb : bs.flatten = [] := List.eq_nil_of_length_eq_zero (by omega)
    subst hr
    simp only [List.flatten_cons, hb, List.append_nil]
    exact hX.2
/-- The next pair of blocks. -/
theorem ph3_pair {w : World} {g : Nat} {L : List Mc} {rest : List Value} {k a : Nat} {wr : World} (h : Ph3 w g L rest k a wr) (hb : a + 2 * k ≤ L.length) :
    ∃ P A B S, SRow wr g (P ++ A ++ B ++ S) rest ∧ P.length = a ∧ A.length = k ∧ B.length = k ∧ (P ++ A ++ B ++ S).length = L.length ∧ Sr A ∧ Sr B ∧ w.grownBy wr (some g) ∧
      ∀ C w', Sorted_ C (A ++ B) → SRow w' g (P ++ C ++ S) rest → wr.grownBy w' (some g) → Ph3 w g L rest k (a + 2 * k) w' := by
  obtain ⟨ds, bs, r, h0, h1, h2, h3, ha, h4, h5, h6, h7⟩ := h
  match bs, h1, h4, h5, h6 with
  | [], _, _, h5, _ => simp only [List.flatten_nil, List.append_nil, List.length_append] at h5; omega
  | [X], h1, _, h5, _ => have := (h1 X (List.mem_cons_self ..)).1; simp only [List.flatten_cons, List.flatten_nil, List.append_nil, List.length_append] at h5; omega
  | X :: Y :: bs, h1, h4, h5, h6 =>
    have hX := h1 X (List.mem_cons_self ..)
    have hY := h1 Y (List.mem_cons_of_mem _ (List.mem_cons_self ..))
    have e : ds.flatten ++ (X :: Y :: bs).flatten ++ r = ds.flatten ++ X ++ Y ++ (bs.flatten ++ r) := by simp
    rw [e] at h4 h5 h6
    refine ⟨ds.flatten, X, Y, bs.flatten ++ r, h6, ha, hX.1, hY.1, h5, hX.2, hY.2, h7, fun C w' hC hS hG => ?_⟩
    have e2 : (ds ++ [C]).flatten ++ bs.flatten ++ r = ds.flatten ++ C ++ (bs.flatten ++ r) := by simp
    have hCl := hC.2.2
    rw [List.length_append] at hCl
    refine ⟨ds ++ [C], bs, r, h0.snoc (by omega) hC.1, fun b hb => h1 b (List.mem_cons_of_mem _ (List.mem_cons_of_mem _ hb)), h2, h3, by rw [flat_snoc, List.length_append]; omega, ?_, ?_, by rw [e2]; exact hS, h7.trans hG⟩
    · rw [e2]
      refine StaK.trans ?_ h4
      rw [show ds.flatten ++ X ++ Y ++ (bs.flatten ++ r) = ds.flatten ++ (X ++ Y) ++ (bs.flatten ++ r) by simp]
      exact ((StaK.refl _).append hC.2.1).append (StaK.refl _)
    · rw [e2]
      simp only [List.length_append] at h5 ⊢
      omega
/-- What is left behind the pairs. -/
theorem ph3_rest {w : World} {g : Nat} {L : List Mc} {rest : List Value} {k a : Nat} {wr : World} (h : Ph3 w g L rest k a wr) (hb : ¬ a + 2 * k ≤ L.length) :
    (a + k < L.length → ∃ P A B, SRow wr g (P ++ A ++ B ++ []) rest ∧ P.length = a ∧ A.length = k ∧ 0 < B.length ∧ (P ++ A ++ B ++ []).length = L.length ∧ Sr A ∧ Sr B ∧ w.grownBy wr (some g) ∧
      ∀ C w', Sorted_ C (A ++ B) → SRow w' g (P ++ C ++ []) rest → wr.grownBy w' (some g) → Ph2 w g L rest (2 * k) w') ∧ (¬ a + k < L.length → Ph2 w g L rest (2 * k) wr) := by
  obtain ⟨ds, bs, r, h0, h1, h2, h3, ha, h4, h5, h6, h7⟩ := h
  match bs, h1, h4, h5, h6 with
  | [], _, h4, h5, h6 =>
    have h5' := h5
    simp only [List.flatten_nil, List.append_nil, List.length_append] at h5'
    refine ⟨fun h => by omega, fun _ => ⟨ds, r, h0, by omega, h3, by simpa using h4, by simpa using h5, by simpa using h6, h7⟩⟩
  | [X], h1, h4, h5, h6 =>
    have hX := h1 X (List.mem_cons_self ..)
    have e : ds.flatten ++ [X].flatten ++ r = ds.flatten ++ X ++ r ++ [] := by simp
    rw [e] at h4 h5 h6
    have h5' := h5
    simp only [List.length_append, List.length_nil] at h5'
    refine ⟨fun h => ⟨ds.flatten, X, r, h6, ha, hX.1, by omega, h5, hX.2, h3, h7, fun C w' hC hS hG => ?_⟩, fun h => ?_⟩
    · have hCl := hC.2.2
      rw [List.length_append] at hCl
      refine ⟨ds, C, h0, by omega, hC.1, ?_, by simp only [List.length_append]; omega, by simpa using hS, h7.trans hG⟩
      refine StaK.trans ?_ h4
      rw [show ds.flatten ++ X ++ r ++ [] = ds.flatten ++ (X ++ r) by simp]
      exact (StaK.refl _).append hC.2.1
    · have hr : r = [] := List.eq_nil_of_length_eq_zero (by omega)
      subst hr
      exact ⟨ds, X, h0, by omega, hX.2, by simpa using h4, by simpa using h5, by simpa using h6, h7⟩
  | X :: Y :: bs, h1, _, h5, _ =>
    have hX := (h1 X (List.mem_cons_self ..)).1
    have hY := (h1 Y (List.mem_cons_of_mem _ (List.mem_cons_self ..))).1
    simp only [List.flatten_cons, List.length_append] at h5; omega
/-- The blocks of 20. -/
theorem ph1_next {w : World} {g : Nat} {L : List Mc} {rest : List Value} {a b : Nat} {wr : World} (h : Ph1 w g L rest a wr) (hb : b ≤ L.length) (hab : a ≤ b) :
    ∃ P M S, SRow wr g (P ++ M ++ S) rest ∧ a = P.length ∧ b = P.length + M.length ∧ L.length = (P ++ M ++ S).length ∧
      (b = a + 20 → ∀ C w', Sorted_ C M → SRow w' g (P ++ C ++ S) rest → wr.grownBy w' (some g) → Ph1 w g L rest b w') ∧
      (b = L.length → b < a + 20 → ∀ C w', Sorted_ C M → SRow w' g (P ++ C ++ S) rest → wr.grownBy w' (some g) → Ph2 w g L rest 20 w') := by
  obtain ⟨bs, h1, h2, h3, h4, h5⟩ := h
  have e : L.drop a = (L.drop a).take (b - a) ++ L.drop b := by
    conv => lhs; rw [← List.take_append_drop (b - a) (L.drop a)]
    rw [List.drop_drop, show a + (b - a) = b by omega]
  have hl : ((L.drop a).take (b - a)).length = b - a := by rw [List.length_take, List.length_drop]; omega
  have et : L.take b = L.take a ++ (L.drop a).take (b - a) := by
    rw [← List.take_append_drop a (L.take b), List.take_take, Nat.min_eq_left hab, List.drop_take]
  refine ⟨bs.flatten, (L.drop a).take (b - a), L.drop b, by rw [List.append_assoc, ← e]; exact h4, h2.symm, by omega, by rw [List.append_assoc, ← e, List.length_append, h2, List.length_drop]; omega, fun hb2 C w' hC hS hG => ?_, fun hb2 hb3 C w' hC hS hG => ?_⟩
  · have hCl := hC.2.2
    refine ⟨bs ++ [C], h1.snoc (by omega) hC.1, by rw [flat_snoc, List.length_append]; omega, ?_, by rw [flat_snoc]; exact hS, h5.trans hG⟩
    rw [flat_snoc, et]
    exact h3.append hC.2.1
  · have hCl := hC.2.2
    have hd : L.drop b = [] := by rw [hb2]; simp
    rw [hd, List.append_nil] at hS
    refine ⟨bs, C, h1, by omega, hC.1, ?_, by rw [List.length_append]; omega, hS, h5.trans hG⟩
    have : St (bs.flatten ++ C) (L.take b) := by rw [et]; exact h3.append hC.2.1
    rwa [hb2, List.take_length] at this

set_option maxRecDepth 100000 in
set_option maxHeartbeats 4000000 in
theorem stable_run (g cap N : Nat) (L : List Mc) (rest : List Value) (w : World) (h : SRow w g L rest) (hN : L.length = N) (hl : N ≤ 1000000) :
    Calls Tryz.prog 89 #[.slice (some ⟨g, 0, none⟩) N cap, .int .i64 N, .func (.func 70) #[] #[]] w fun e w' => e = .returned (.tuple #[]) ∧ ∃ C, Sorted_ C L ∧ SRow w' g C rest ∧ w.grownBy w' (some g) := by
  have H1 : Hid (Ph1 w g L rest 0 w) := hide ⟨[], FullB.nil, rfl, StaK.refl _, by simpa using h, grown_refl _ _⟩
  have HN := Lib.hid hN
  have HIN := hide fun (a b : Nat) P M S W (h1 : SRow W g (P ++ M ++ S) rest) (h2 : a = P.length) (h3 : b = P.length + M.length) (h4 : L.length = (P ++ M ++ S).length) => insSort_run g cap N a b P M S rest W h1 h2 h3 (by rw [← hN]; exact h4) (by omega)
  have HSY := hide fun (a m b : Nat) P A B S W (h1 : SRow W g (P ++ A ++ B ++ S) rest) (h2 : 0 < A.length) (h3 : 0 < B.length) (h4 : P.length = a) (h5 : a + A.length = m) (h6 : m + B.length = b) (h7 : (P ++ A ++ B ++ S).length = L.length) (h8 : Sr A) (h9 : Sr B) => symMerge_run g cap N rest (by omega) (A.length + B.length) P A B S a m b W (Nat.le_refl _) h1 h2 h3 h4 h5 h6 (by rw [h7, hN]) h8 h9
  clear h hN
  go_enter Tryz.func89, Tryz.ntmps89
  go_wp2_with fail
  go_loopw [7, 8] (fun av bv wr => ∃ a : Nat, av = .int .i64 a ∧ bv = .int .i64 ((a + 20 : Nat) : Int) ∧ a ≤ N ∧ Hid (Ph1 w g L rest a wr)) (fun av _ _ => N - (intOf av).toNat)
  case atStart => exact ⟨0, rfl, rfl, Nat.zero_le _, H1⟩
  case round =>
    clear H1
    obtain ⟨a, rfl, rfl, ha, hP⟩ := hrel
    by_cases hb : a + 20 ≤ N
    · have g1 : decide (((a + 20 : Nat) : Int) ≤ (N : Int)) = true := by simp; omega
      obtain ⟨P, M, S, q1, q2, q3, q4, q5, _⟩ := ph1_next (b := a + 20) hP.out (by rw [HN.out]; exact hb) (by omega)
      have HC := hide (HIN.out a (a + 20) P M S wr q1 q2 q3 q4)
      have HQ := hide (q5 rfl)
      clear q1 q2 q3 q4 q5 hP
      go_wp2_with fail
      refine HC.out.mono ?_; rintro e w1 ⟨rfl, C, hC, hS, hG⟩
      have HE := hide (HQ.out C w1 hC hS hG)
      clear hC hS hG HC HQ
      go_wp2_with fail
      go_roundw
      case rel => exact ⟨a + 20, rfl, by go_num, hb, HE⟩
      case measure => simp [intOf]; omega
    · have g1 : decide (((a + 20 : Nat) : Int) ≤ (N : Int)) = false := by simp; omega
      obtain ⟨P, M, S, q1, q2, q3, q4, _, q5⟩ := ph1_next (b := N) hP.out (by rw [HN.out]; exact Nat.le_refl _) ha
      have HC := hide (HIN.out a N P M S wr q1 q2 q3 q4)
      have HQ := hide (q5 HN.out.symm (by omega))
      clear q1 q2 q3 q4 q5 hP
      go_wp2_with fail
      refine HC.out.mono ?_; rintro e w1 ⟨rfl, C, hC, hS, hG⟩
      have HE := hide (HQ.out C w1 hC hS hG)
      clear hC hS hG HC HQ HIN g1 hb ha
      go_wp2_with fail
      go_loopw [6, 7, 8, 9] (fun v _ _ _ wr => ∃ k : Nat, v = .int .i64 k ∧ 20 ≤ k ∧ k ≤ 2 * N + 20 ∧ Hid (Ph2 w g L rest k wr)) (fun v _ _ _ _ => N - (intOf v).toNat)
      case atStart => exact ⟨20, rfl, Nat.le_refl _, by omega, HE⟩
      case round =>
        clear HE
        obtain ⟨k, rfl, hk1, hk2, hP⟩ := hrel
        by_cases hk : k < N
        · have H3 := hide (ph3_start hP.out)
          clear hP
          go_wp2_with fail
          go_loopw [7, 8] (fun av bv wr => ∃ a : Nat, av = .int .i64 a ∧ bv = .int .i64 ((a + 2 * k : Nat) : Int) ∧ a ≤ N ∧ Hid (Ph3 w g L rest k a wr)) (fun av _ _ => N - (intOf av).toNat)
          case atStart => exact ⟨0, rfl, by go_num, Nat.zero_le _, H3⟩
          case round =>
            clear H3
            obtain ⟨a, rfl, rfl, ha, hP⟩ := hrel
            by_cases hb : a + 2 * k ≤ N
            · have g1 : decide (((a + 2 * k : Nat) : Int) ≤ (N : Int)) = true := by simp; omega
              obtain ⟨P, A, B, S, q1, q2, q3, q4, q5, q6, q7, _, q9⟩ := ph3_pair hP.out (by rw [HN.out]; exact hb)
              have HC := hide (HSY.out a (a + k) (a + 2 * k) P A B S wr q1 (by omega) (by omega) q2 (by omega) (by omega) q5 q6 q7)
              have HQ := hide q9
              clear q1 q2 q3 q4 q5 q6 q7 q9 hP
              go_wp2_with fail
              refine HC.out.mono ?_; rintro e w2 ⟨rfl, C, hC, hS, hG⟩
              have HE := hide (HQ.out C w2 hC hS hG)
              clear hC hS hG HC HQ
              go_wp2_with fail
              go_roundw
              case rel => exact ⟨a + 2 * k, rfl, by go_num, hb, HE⟩
              case measure => simp [intOf]; omega
            · have g1 : decide (((a + 2 * k : Nat) : Int) ≤ (N : Int)) = false := by simp; omega
              obtain ⟨q1, q2⟩ := ph3_rest hP.out (by rw [HN.out]; exact hb)
              rw [HN.out] at q1 q2
              by_cases hm : a + k < N
              · obtain ⟨P, A, B, q1, q2, q3, q4, q5, q6, q7, _, q9⟩ := q1 hm
                have HC := hide (HSY.out a (a + k) N P A B [] wr q1 (by omega) (by omega) q2 (by omega) (by have := HN.out; simp at q5; omega) (by rw [q5, HN.out]) q6 q7)
                have HQ := hide q9
                clear q1 q2 q3 q4 q5 q6 q7 q9 hP
                go_wp2_with fail
                refine HC.out.mono ?_; rintro e w2 ⟨rfl, C, hC, hS, hG⟩
                have HE := hide (HQ.out C w2 hC hS hG)
                clear hC hS hG HC HQ
                go_wp2_with fail
                go_roundw
                case rel => exact ⟨2 * k, by go_num, by omega, by omega, HE⟩
                case measure => simp [intOf]; omega
              · have HE := hide (q2 hm)
                clear q1 q2 hP
                go_wp2_with fail
                go_roundw
                case rel => exact ⟨2 * k, by go_num, by omega, by omega, HE⟩
                case measure => simp [intOf]; omega
        · have HE := hide (ph2_end hP.out (by rw [HN.out]; omega))
          clear hP
          go_wp2_with fail
          go_end0
          exact ⟨rfl, HE.out⟩

theorem sortStable_nil (w : World) : Calls Tryz.prog 69 #[.slice none 0 0, .func (.func 70) #[] #[]] w fun e w' => e = .returned (.tuple #[]) ∧ w = w' := by
  go_enter Tryz.func69, Tryz.ntmps69
  go_wp2_with fail
  refine (stable_nil _).mono ?_; rintro e w1 ⟨rfl, rfl⟩
  go_wp2_with fail
  go_end0
  exact ⟨rfl, rfl⟩
theorem sortStable_run (g cap N : Nat) (L : List Mc) (rest : List Value) (w : World) (h : SRow w g L rest) (hN : L.length = N) (hl : N ≤ 1000000) :
    Calls Tryz.prog 69 #[.slice (some ⟨g, 0, none⟩) N cap, .func (.func 70) #[] #[]] w fun e w' => e = .returned (.tuple #[]) ∧ ∃ C, Sorted_ C L ∧ SRow w' g C rest ∧ w.grownBy w' (some g) := by
  have HC := hide (stable_run g cap N L rest w h hN hl)
  clear h hN
  go_enter Tryz.func69, Tryz.ntmps69
  go_wp2_with fail
  refine HC.out.mono ?_; rintro e w1 ⟨rfl, hE⟩
  have HE := hide hE
  clear hE
  go_wp2_with fail
  go_end0
  exact ⟨rfl, HE.out⟩
end Go.Proofs.YtmmbbndoimleaaaGreatDoor

/- Data made afresh: it stands as long as the blocks behind a bound do. -/
namespace Go.Proofs.YtmmbbndoimleaaaGreatDoor
open Go.RowKit

/-- Data that stands in every world which keeps the blocks from lo on, but for one. -/
def PZ (lo : Nat) (ex : Option Nat) (w : World) (m : Nat) : Reads := fun d a c a' c' =>
  ∀ W, w.heap.size ≤ W.heap.size → (∀ k, lo ≤ k → k < w.heap.size → some k ≠ ex → W.heap[k]? = w.heap[k]?) → Parts W W.heap.size m d a c a' c'
theorem PZ.turn {lo lo' : Nat} {ex ex' : Option Nat} {w w' : World} {m : Nat} {d : Dt} {a c a' c'} (h : PZ lo ex w m d a c a' c') (hs : w.heap.size ≤ w'.heap.size)
    (hk : ∀ k, lo ≤ k → k < w.heap.size → some k ≠ ex → w'.heap[k]? = w.heap[k]? ∧ lo' ≤ k ∧ some k ≠ ex') : PZ lo' ex' w' m d a c a' c' := fun W h1 h2 =>
  h W (Nat.le_trans hs h1) fun k k1 k2 k3 => (h2 k (hk k k1 k2 k3).2.1 (Nat.lt_of_lt_of_le k2 hs) (hk k k1 k2 k3).2.2).trans (hk k k1 k2 k3).1
theorem PZ.parts {lo : Nat} {ex : Option Nat} {w : World} {m : Nat} {d : Dt} {a c a' c'} (h : PZ lo ex w m d a c a' c') : Parts w w.heap.size m d a c a' c' := h w (Nat.le_refl _) fun _ _ _ _ => rfl
/-- A slice of data made afresh. -/
def DZ (lo : Nat) (w : World) (m : Nat) (u : Value) (l : List Dt) : Prop :=
  ∃ A c, u = .slice A l.length c ∧ l.length ≤ c ∧ c ≤ maxLen ∧ ∀ W, w.heap.size ≤ W.heap.size → (∀ k, lo ≤ k → k < w.heap.size → W.heap[k]? = w.heap[k]?) → DatsAt (Parts W W.heap.size m) W W.heap.size A l
def MZ (lo : Nat) (w : World) (m : Nat) (u : Value) (l : List (ByteArray × Dt)) : Prop :=
  ∃ A c, u = .slice A l.length c ∧ l.length ≤ c ∧ c ≤ maxLen ∧ ∀ W, w.heap.size ≤ W.heap.size → (∀ k, lo ≤ k → k < w.heap.size → W.heap[k]? = w.heap[k]?) → MemsAt (Parts W W.heap.size m) W W.heap.size A l
theorem DZ.nil (lo : Nat) (w : World) (m : Nat) : DZ lo w m (.slice none 0 0) [] := ⟨none, 0, rfl, Nat.le_refl _, Nat.zero_le _, fun W _ _ i x h => by simp at h⟩
theorem MZ.nil (lo : Nat) (w : World) (m : Nat) : MZ lo w m (.slice none 0 0) [] := ⟨none, 0, rfl, Nat.le_refl _, Nat.zero_le _, fun W _ _ i x h => by simp at h⟩
theorem DZ.turn {lo lo' : Nat} {w w' : World} {m : Nat} {u : Value} {l : List Dt} (h : DZ lo w m u l) (hl : lo' ≤ lo) (hs : w.heap.size ≤ w'.heap.size) (hk : ∀ k, lo ≤ k → k < w.heap.size → w'.heap[k]? = w.heap[k]?) : DZ lo' w' m u l := by
  obtain ⟨A, c, e, h1, h2, h3⟩ := h
  exact ⟨A, c, e, h1, h2, fun W g1 g2 => h3 W (Nat.le_trans hs g1) fun k k1 k2 => (g2 k (Nat.le_trans hl k1) (Nat.lt_of_lt_of_le k2 hs)).trans (hk k k1 k2)⟩
theorem MZ.turn {lo lo' : Nat} {w w' : World} {m : Nat} {u : Value} {l : List (ByteArray × Dt)} (h : MZ lo w m u l) (hl : lo' ≤ lo) (hs : w.heap.size ≤ w'.heap.size) (hk : ∀ k, lo ≤ k → k < w.heap.size → w'.heap[k]? = w.heap[k]?) : MZ lo' w' m u l := by
  obtain ⟨A, c, e, h1, h2, h3⟩ := h
  exact ⟨A, c, e, h1, h2, fun W g1 g2 => h3 W (Nat.le_trans hs g1) fun k k1 k2 => (g2 k (Nat.le_trans hl k1) (Nat.lt_of_lt_of_le k2 hs)).trans (hk k k1 k2)⟩
/-- Data from its two slices. -/
theorem pz_mk {lo : Nat} {w : World} {m : Nat} {k n : Int} {s : ByteArray} {u v : Value} {l : List Dt} {ms : List (ByteArray × Dt)} (h : DZ lo w m u l) (h' : MZ lo w m v ms) :
    ∃ a c a' c', u = .slice a l.length c ∧ v = .slice a' ms.length c' ∧ PZ lo none w (m + 1) (mkD k n s l ms) a c a' c' := by
  obtain ⟨A, c, e, h1, h2, h3⟩ := h
  obtain ⟨A', c', e', h1', h2', h3'⟩ := h'
  refine ⟨A, c, A', c', e, e', fun W g1 g2 => ⟨⟨h1, h2, by rw [mD_mk]; exact h1', h2'⟩, ?_, ?_⟩⟩
  · exact h3 W g1 fun k k1 k2 => g2 k k1 k2 (by simp)
  · rw [mD_mk]; exact h3' W g1 fun k k1 k2 => g2 k k1 k2 (by simp)
theorem own_lo {w : World} {base : Nat} {e : TypeId} {size n c : Nat} {A : Option Addr} {xs : List Value} (h : w.ownsRow base e size (.slice A n c) n xs) (hn : 0 < n) : ∃ g, A = some ⟨g, 0, none⟩ ∧ base ≤ g ∧ g < w.heap.size := by
  obtain ⟨g, cap, e, h1, h2⟩ := h.form hn
  injection e with e1
  exact ⟨g, e1, h1, h2⟩
theorem OwnD.dz {lo base : Nat} {w : World} {m : Nat} {u : Value} {l : List Dt} (h : OwnD (PZ base u.ownBlock w m) w base u l) (hl : lo ≤ base) : DZ lo w m u l := by
  obtain ⟨A, c, rfl, h1, h2, _⟩ := h.dats
  refine ⟨A, c, rfl, h1, h2, fun W g1 g2 => ?_⟩
  obtain ⟨xs, ho, hf⟩ := h
  rcases Nat.eq_zero_or_pos l.length with h0 | h0
  · rw [List.eq_nil_of_length_eq_zero h0]; intro i x hx; simp at hx
  · obtain ⟨g, rfl, hg, hg2⟩ := own_lo ho h0
    refine DatsAt.of_flat (hf.turn fun x a c a' c' hp => hp W g1 fun k k1 k2 _ => g2 k (by omega) k2) (by show g < _; omega) fun j v hv => ?_
    have hc := ho.cells (g := g) rfl j v hv
    rw [add_head] at hc ⊢
    exact (World.cell?_of_block (g2 g (by omega) hg2)).trans hc
/-- The members' row as the sort sees it. -/
theorem mcs_of_flat {R : Reads} : ∀ {xs : List Value} {l : List (ByteArray × Dt)}, FlatM R xs l → ∃ L : List Mc, xs = L.flatMap mcs ∧ L.map (fun e => (e.1, e.2.1)) = l ∧ ∀ e ∈ L, R e.2.1 e.2.2.1 e.2.2.2.1 e.2.2.2.2.1 e.2.2.2.2.2
  | _, [], h => by have h : _ = [] := h; exact ⟨[], by rw [h]; rfl, rfl, by simp⟩
  | _, d :: l, ⟨a, c, a', c', ys, e, hR, h⟩ => by
    obtain ⟨L, e1, e2, e3⟩ := mcs_of_flat h
    refine ⟨(d.1, d.2, a, c, a', c') :: L, by rw [e, e1]; rfl, by rw [List.map_cons, e2], fun x hx => ?_⟩
    rcases List.mem_cons.1 hx with rfl | hx
    · exact hR
    · exact e3 x hx
theorem flat_of_mcs {R : Reads} : ∀ {L : List Mc}, (∀ e ∈ L, R e.2.1 e.2.2.1 e.2.2.2.1 e.2.2.2.2.1 e.2.2.2.2.2) → FlatM R (L.flatMap mcs) (L.map fun e => (e.1, e.2.1))
  | [], _ => rfl
  | x :: L, h => ⟨x.2.2.1, x.2.2.2.1, x.2.2.2.2.1, x.2.2.2.2.2, L.flatMap mcs, rfl, h x (List.mem_cons_self ..), flat_of_mcs fun e he => h e (List.mem_cons_of_mem _ he)⟩
/-- Sorted members by labels. -/
theorem sorted_members {C L : List Mc} (h : Sorted_ C L) : C.map (fun e => (e.1, e.2.1)) = sortK Prod.fst (L.map fun e => (e.1, e.2.1)) :=
  eq_sortK (k := Prod.fst) (SrtK.map (k := lab) (k' := Prod.fst) (fun e : Mc => (e.1, e.2.1)) (fun _ => rfl) h.1) (StaK.map (k := lab) (k' := Prod.fst) (fun e : Mc => (e.1, e.2.1)) (fun _ => rfl) h.2.1)
end Go.Proofs.YtmmbbndoimleaaaGreatDoor

/- Text of package fixed. -/
namespace Go.Proofs.YtmmbbndoimleaaaGreatDoor
open Go.RowKit

theorem size_u_run (u : Int) (h : validB u = true) (w : World) : Calls Tryz.prog 110 #[.int .i64 u] w fun e w' => e = .returned (.int .u64 (u.natAbs : Int)) ∧ w' = w := by
  have hv : -1000000000000000 ≤ u ∧ u ≤ 1000000000000000 := by
    unfold validB at h; simpa using h
  obtain ⟨h1, h2⟩ := hv
  by_cases hn : u < 0
  · have w1 : IntKind.i64.wrap (-u) = -u := IntWalk.i64_in _ (by omega)
    have w2 : IntKind.u64.wrap (-u) = -u := by rw [IntKind.wrap_u64]; omega
    have e1 : -u = (u.natAbs : Int) := by omega
    have HE := Lib.hid e1
    clear h e1
    go_enter Tryz.func110, Tryz.ntmps110
    go_wp2_with fail
    go_ret
    exact ⟨by rw [← HE.out]; rfl, rfl⟩
  · have w2 : IntKind.u64.wrap u = u := by rw [IntKind.wrap_u64]; omega
    have e1 : u = (u.natAbs : Int) := by omega
    have HE := Lib.hid e1
    clear h e1
    go_enter Tryz.func110, Tryz.ntmps110
    go_wp2_with fail
    go_ret
    exact ⟨by rw [← HE.out]; rfl, rfl⟩

/-- A text without the zeros at its end. -/
def trimF : Nat → ByteArray → ByteArray
  | 0, s => s
  | n + 1, s => if s.get! n = 48 then trimF n (s.extract 0 n) else s
def trimB (s : ByteArray) : ByteArray := trimF s.size s
def fracB (r : Nat) : ByteArray := trimB ((decB (r + 10000)).extract 1 (decB (r + 10000)).size)
def dotB (f : ByteArray) : ByteArray := if f.toList = [] then ByteArray.empty else ⟨#[46]⟩ ++ f
def signB (u : Int) (s : ByteArray) : ByteArray := if u < 0 then ⟨#[45]⟩ ++ s else s
/-- The text of a number. -/
def numB (u : Int) : ByteArray :=
  if validB u = false then ⟨#[63]⟩ else signB u (decB (u.natAbs / 10000)) ++ dotB (fracB (u.natAbs % 10000))

theorem tab_below {w w' : World} (h : Tab w) (hB : Below w.heap.size w w') : Tab w' := by
  unfold Tab Lib.TabIs World.var? at *
  cases hg : Tryz.prog.globalNamed "internal/strconv.uint64pow10" with
  | none => simp [hg] at h
  | some g =>
    simp only [hg, Option.bind_some] at h ⊢
    have hlt : g < w.heap.size := by
      rcases Nat.lt_or_ge g w.heap.size with h' | h'
      · exact h'
      · rw [Array.getElem?_eq_none h'] at h; simp at h
    rw [hB.block g hlt]
    exact h
def sizeOfV : Value → Nat
  | .string s => s.size
  | _ => 0
theorem get_eq (s : ByteArray) (i : Nat) (h : i < s.size) : s.get! i = s[i] := by
  show s.data[i]! = s.data[i]
  rw [getElem!_pos s.data i h]
theorem decB_size (u : Nat) : (decB u).size = Lib.nDigits u := by
  unfold decB; show (Lib.decDigits u).toArray.size = _; simp [Lib.decDigits_length]
theorem nDigits_small {u : Nat} (h : u < 100000000000000000000) : Lib.nDigits u ≤ 20 := by
  by_cases h0 : u = 0
  · subst h0; rw [Lib.nDigits_small (by omega)]; omega
  · have := Lib.numDigits_eq u (by omega)
    rcases Nat.lt_or_ge u 18446744073709551616 with h2 | h2
    · have := this h2; split at this <;> omega
    · have := Lib.nDigits_unique 19 u (by omega) (by omega); omega

set_option maxRecDepth 20000 in
set_option maxHeartbeats 2000000 in
theorem numText_run (u : Int) (w : World) (ht : Tab w) : Calls Tryz.prog 95 #[.int .i64 u] w fun e w' => e = .returned (.string (numB u)) ∧ Below w.heap.size w w' := by
  obtain ⟨res, hres⟩ : ∃ r, r = numB u := ⟨_, rfl⟩
  rw [← hres]
  unfold numB at hres
  have HV := hide fun w => valid_run u w
  cases hv : validB u with
  | false =>
    rw [hv] at HV hres
    have HZ := hide (show res = ⟨#[63]⟩ by rw [hres]; simp)
    clear hres ht
    go_enter Tryz.func95, Tryz.ntmps95
    go_wp2_with fail
    refine (HV.out _).mono ?_; rintro e w' ⟨rfl, rfl⟩
    go_wp2_with fail
    go_ret
    exact ⟨ret_str HZ.out.symm, Below.refl _ _⟩
  | true =>
    have HSZ := hide fun w => size_u_run u hv w
    have hb : u.natAbs ≤ 1000000000000000 := by unfold validB at hv; simp at hv; omega
    rw [hv] at HV hres
    obtain ⟨n, hn⟩ : ∃ n, n = u.natAbs := ⟨_, rfl⟩
    rw [← hn] at HSZ hb hres
    have hq1 : n / 10000 < 1000000000000000000 := by omega
    have hq2 : n % 10000 + 10000 < 1000000000000000000 := by omega
    have HF1 := hide fun w' (h : Tab w') => FormatUint_run (n / 10000) hq1 w' h
    have HF2 := hide fun w' (h : Tab w') => FormatUint_run (n % 10000 + 10000) hq2 w' h
    have e1 : (n : Int) / 10000 = ((n / 10000 : Nat) : Int) := by omega
    have e2 : (n : Int) % 10000 = ((n % 10000 : Nat) : Int) := by omega
    have e3 : IntKind.u64.wrap (((n % 10000 : Nat) : Int) + 10000) = ((n % 10000 + 10000 : Nat) : Int) := by rw [IntKind.wrap_u64]; omega
    have w4 : IntKind.u64.wrap ((n / 10000 : Nat) : Int) = ((n / 10000 : Nat) : Int) := by rw [IntKind.wrap_u64]; omega
    have w5 : IntKind.u64.wrap ((n % 10000 : Nat) : Int) = ((n % 10000 : Nat) : Int) := by rw [IntKind.wrap_u64]; omega
    have HT := hide ht
    obtain ⟨D, hD⟩ : ∃ D, D = decB (n / 10000) := ⟨_, rfl⟩
    obtain ⟨F, hF⟩ : ∃ D, D = decB (n % 10000 + 10000) := ⟨_, rfl⟩
    have hDs : D.size ≤ 20 := by rw [hD, decB_size]; exact nDigits_small (by omega)
    have hFs : F.size = 5 := by rw [hF, decB_size]; exact Lib.nDigits_unique 4 _ (by omega) (by omega)
    rw [← hD] at HF1
    rw [← hF] at HF2
    unfold fracB at hres
    rw [← hD, ← hF] at hres
    have HRES := Lib.hid hres
    obtain ⟨q, hq⟩ : ∃ q, q = n / 10000 := ⟨_, rfl⟩
    obtain ⟨r, hr⟩ : ∃ q, q = n % 10000 := ⟨_, rfl⟩
    rw [← hq] at e1 HF1 w4
    rw [← hr] at e2 e3 HF2 w5
    clear hres ht hv hn hb hD hF hq hr hq1 hq2
    go_enter Tryz.func95, Tryz.ntmps95
    go_wp2_with fail
    refine (HV.out _).mono ?_; rintro e w' ⟨rfl, rfl⟩
    go_wp2_with fail
    refine (HSZ.out _).mono ?_; rintro e w' ⟨rfl, rfl⟩
    go_wp2_with fail
    refine (HF1.out _ HT.out).mono ?_; rintro e w2 ⟨rfl, hB2⟩
    have HB2 := hide hB2
    have HT2 := hide (show Tab w2 from tab_below HT.out hB2)
    clear hB2 HF1 HT
    obtain ⟨G, hG⟩ : ∃ G, G = signB u D := ⟨_, rfl⟩
    have hGs : G.size ≤ 21 := by
      rw [hG]; unfold signB; split
      · rw [ByteArray.size_append]; show 1 + D.size ≤ 21; omega
      · omega
    have hGG : (u < 0 ∧ (⟨#[45]⟩ : ByteArray) ++ D = G) ∨ (¬ u < 0 ∧ D = G) := by
      by_cases h : u < 0
      · exact .inl ⟨h, by rw [hG, signB, if_pos h]⟩
      · exact .inr ⟨h, by rw [hG, signB, if_neg h]⟩
    have HR2 := hide (show res = G ++ dotB (trimB (F.extract 1 F.size)) by rw [HRES.out, if_neg (by simp), hG])
    clear hG HRES
    obtain ⟨R, hR⟩ : ∃ R, R = F.extract 1 5 := ⟨_, rfl⟩
    have hRs : R.size = 4 := by rw [hR, ByteArray.size_extract]; omega
    rw [hFs, ← hR] at HR2
    have HRR := Lib.hid hR
    rcases hGG with ⟨hu, hGG⟩ | ⟨hu, hGG⟩
    all_goals
      have HGG := Lib.hid hGG
      clear hGG
      go_wp2_with fail
      refine (HF2.out _ HT2.out).mono ?_; rintro e w3 ⟨rfl, hB3⟩
      have HB3 := hide (HB2.out.trans (hB3.mono HB2.out.size))
      clear hB3 HF2 HT2 HB2 hR
      go_wp2_with fail
      go_loopw [5] (fun tv wr => ∃ (k : Nat) (T : ByteArray), tv = .string T ∧ T.size = k ∧ k ≤ 4 ∧ Hid (trimB R = trimF k T) ∧ wr = w3) (fun tv _ => sizeOfV tv)
      case atStart => exact ⟨4, R, by rw [HRR.out], hRs, by omega, hide (by rw [trimB, hRs]), rfl⟩
      case round =>
        obtain ⟨k, T, rfl, hTs, hk, hI, rfl⟩ := hrel
        cases k with
        | zero =>
          have hTn : T.toList = [] := by
            rw [Lib.toList_data]
            exact List.eq_nil_of_length_eq_zero (by rw [Array.length_toList]; exact hTs)
          have hT0 : (T.toList == []) = true := by rw [hTn]; rfl
          have hTe : T = ByteArray.empty := ByteArray.ext (by rw [Lib.toList_data] at hTn; rw [← Array.toList_inj, hTn]; rfl)
          have HZ := hide (show res = G by
            rw [HR2.out, hI.out, trimF, dotB, if_pos hTn]
            exact ByteArray.append_empty)
          have HTT := Lib.hid hTe
          clear hTn hTe hI
          go_wp2_with fail
          go_ret
          exact ⟨by first | (rw [HZ.out, ← HGG.out]; done) | (rw [HZ.out, ← HGG.out]; rfl), HB3.out⟩
        | succ n =>
          have hn : n < T.size := by omega
          have hq := hI.out
          rw [trimF, get_eq T n hn] at hq
          by_cases h48 : T[n] = 48
          · rw [if_pos h48] at hq
            have g8 : ((T[n].toNat : Int) == 48) = true := by rw [h48]; rfl
            have HQ := Lib.hid hq
            have hT2 : (T.extract 0 n).size = n := by rw [ByteArray.size_extract]; omega
            have HT2 := Lib.hid hT2
            clear hq h48 hI hT2
            go_wp2_with fail
            go_roundw
            case rel => exact ⟨n, T.extract 0 n, rfl, HT2.out, by omega, HQ, by first | rfl | trivial⟩
            case measure => simp [sizeOfV]; omega
          · rw [if_neg h48] at hq
            have g8 : ((T[n].toNat : Int) == 48) = false := by
              have : T[n].toNat ≠ 48 := fun h => h48 (UInt8.toNat_inj.1 (by rw [h]; rfl))
              simp; omega
            have hne : T.toList ≠ [] := fun h => by
              rw [Lib.toList_data] at h
              have h2 : T.data.toList.length = T.size := by rw [Array.length_toList]; rfl
              rw [h] at h2; simp at h2; omega
            have g9 : (T.toList == []) = false := by simpa using hne
            have HZ := hide (show res = G ++ (⟨#[46]⟩ ++ T) by rw [HR2.out, hq, dotB, if_neg hne])
            clear hq h48 hne hI
            go_wp2_with fail
            go_ret
            exact ⟨by first | (rw [HZ.out, ← HGG.out]; done) | (rw [HZ.out, ← HGG.out]; rfl), HB3.out⟩
end Go.Proofs.YtmmbbndoimleaaaGreatDoor

/- Package quote: letter, escape. -/
namespace Go.Proofs.YtmmbbndoimleaaaGreatDoor
open Go.RowKit

def letterN (b : Nat) : Bool := (decide (97 ≤ b) && decide (b ≤ 122)) || (decide (65 ≤ b) && decide (b ≤ 90))
theorem letter_run (b : Nat) (w : World) : Calls Tryz.prog 123 #[.int .u8 b] w fun e w' => e = .returned (.bool (letterN b)) ∧ w' = w := by
  go_enter Tryz.func123, Tryz.ntmps123
  go_wp2_with fail
  all_goals
    go_ret
    refine ⟨ret_bool ?_, rfl⟩
    unfold letterN
    first
      | (rw [Bool.eq_iff_iff]; simp; omega)
      | (simp; omega)

def hexN (b : Nat) : UInt8 := UInt8.ofNat (if b < 10 then 48 + b else 87 + b)
/-- What stands for a byte in a literal. -/
def escN (b : Nat) : ByteArray :=
  if b = 34 ∨ b = 92 then ⟨#[92, UInt8.ofNat b]⟩
  else if b = 10 then ⟨#[92, 110]⟩ else if b = 9 then ⟨#[92, 116]⟩ else if b = 13 then ⟨#[92, 114]⟩
  else if b < 32 ∨ 126 < b then ⟨#[92, 120, hexN (b / 16), hexN (b % 16)]⟩ else ⟨#[UInt8.ofNat b]⟩

theorem and15 (b : Nat) (hb : b < 256) : bits BinOp.and IntKind.u8 (b : Int) 15 = ((b % 16 : Nat) : Int) := by
  have : ∀ b : Fin 256, bits BinOp.and IntKind.u8 ((b : Nat) : Int) 15 = (((b : Nat) % 16 : Nat) : Int) := by decide +kernel
  exact this ⟨b, hb⟩
theorem enc_ascii (b : Nat) (hb : b < 128) : Utf8.encode (b : Int) = ⟨#[UInt8.ofNat b]⟩ := by
  have : ∀ b : Fin 128, (Utf8.encode ((b : Nat) : Int)).data = #[UInt8.ofNat b] := by decide +kernel
  exact ByteArray.ext (this ⟨b, hb⟩)
theorem hex_slice (h : Nat) (hh : h < 16) (W : World) :
    (Instr.sliceAt 9 (.string ⟨#[48, 49, 50, 51, 52, 53, 54, 55, 56, 57, 97, 98, 99, 100, 101, 102]⟩) (some (.int .u8 (h : Int))) (some (.int .u8 ((h : Int) + 1))) none).run Tryz.prog W = .ok (.string ⟨#[hexN h]⟩) W := by
  have : ∀ h : Fin 16, (Instr.sliceAt 9 (.string ⟨#[48, 49, 50, 51, 52, 53, 54, 55, 56, 57, 97, 98, 99, 100, 101, 102]⟩) (some (.int .u8 ((h : Nat) : Int))) (some (.int .u8 (((h : Nat) : Int) + 1))) none).run Tryz.prog W = .ok (.string ⟨#[hexN h]⟩) W := by
    intro h
    obtain ⟨h, hh⟩ := h
    match h, hh with
    | 0, _ => go_simp; rfl
    | 1, _ => go_simp; rfl
    | 2, _ => go_simp; rfl
    | 3, _ => go_simp; rfl
    | 4, _ => go_simp; rfl
    | 5, _ => go_simp; rfl
    | 6, _ => go_simp; rfl
    | 7, _ => go_simp; rfl
    | 8, _ => go_simp; rfl
    | 9, _ => go_simp; rfl
    | 10, _ => go_simp; rfl
    | 11, _ => go_simp; rfl
    | 12, _ => go_simp; rfl
    | 13, _ => go_simp; rfl
    | 14, _ => go_simp; rfl
    | 15, _ => go_simp; rfl
    | n + 16, h => omega
  exact this ⟨h, hh⟩

set_option maxRecDepth 20000 in
set_option maxHeartbeats 1000000 in
theorem escape_run (b : Nat) (hb : b < 256) (w : World) : Calls Tryz.prog 126 #[.int .u8 b] w fun e w' => e = .returned (.string (escN b)) ∧ ∃ m, w' = w.drewN m := by
  go_enter Tryz.func126, Tryz.ntmps126
  by_cases h1 : b = 34 ∨ b = 92
  · rcases h1 with rfl | rfl
    · go_wp2_with fail
      go_ret
      exact ⟨ret_str (by decide), 0, rfl⟩
    · go_wp2_with fail
      go_ret
      exact ⟨ret_str (by decide), 0, rfl⟩
  · by_cases h2 : b < 32 ∨ 126 < b
    · by_cases h3 : b = 10
      · subst h3
        go_wp2_with fail
        go_ret
        exact ⟨rfl, 0, rfl⟩
      · by_cases h4 : b = 9
        · subst h4
          go_wp2_with fail
          go_ret
          exact ⟨rfl, 0, rfl⟩
        · by_cases h5 : b = 13
          · subst h5
            go_wp2_with fail
            go_ret
            exact ⟨rfl, 0, rfl⟩
          · have g1 : ((b : Int) == 34) = false := by simp; omega
            have g2 : ((b : Int) == 92) = false := by simp; omega
            have g3 : ((b : Int) == 10) = false := by simp; omega
            have g4 : ((b : Int) == 9) = false := by simp; omega
            have g5 : ((b : Int) == 13) = false := by simp; omega
            have he : escN b = ⟨#[92, 120, hexN (b / 16), hexN (b % 16)]⟩ := by
              unfold escN; rw [if_neg h1, if_neg h3, if_neg h4, if_neg h5, if_pos h2]
            have hg : (decide ((b : Int) < 32) = true ∧ True) ∨ (decide ((b : Int) < 32) = false ∧ decide ((b : Int) > 126) = true) := by
              rcases h2 with h | h
              · exact .inl ⟨by simp; omega, trivial⟩
              · exact .inr ⟨by simp; omega, by simp; omega⟩
            obtain ⟨hi, hhi⟩ : ∃ hi, hi = b / 16 := ⟨_, rfl⟩
            obtain ⟨lo, hlo⟩ : ∃ hi, hi = b % 16 := ⟨_, rfl⟩
            have e1 : (b : Int) / 16 = (hi : Int) := by omega
            have e2 : bits BinOp.and IntKind.u8 (b : Int) 15 = (lo : Int) := by rw [and15 b hb, hlo]
            have e3 : IntKind.u8.wrap ((hi : Int) + 1) = (hi : Int) + 1 := by rw [IntKind.wrap_u8]; omega
            have e4 : IntKind.u8.wrap ((lo : Int) + 1) = (lo : Int) + 1 := by rw [IntKind.wrap_u8]; omega
            have l1 : hi < 16 := by omega
            have l2 : lo < 16 := by omega
            rw [← hhi, ← hlo] at he
            have HE := Lib.hid he
            clear he h1 h2 h3 h4 h5 hhi hlo
            rcases hg with ⟨g6, g7⟩ | ⟨g6, g7⟩
            all_goals
              have hs1 := fun W => hex_slice hi l1 W
              have hs2 := fun W => hex_slice lo l2 W
              go_wp2_with fail
              go_quiet (fail)
              go_wp2_with fail
              go_ret
              exact ⟨ret_str (by rw [HE.out]; exact ByteArray.ext rfl), nq, rfl⟩
    · have he : escN b = ⟨#[UInt8.ofNat b]⟩ := by
        unfold escN; rw [if_neg h1, if_neg (by omega), if_neg (by omega), if_neg (by omega), if_neg h2]
      have HE := Lib.hid he
      have g1 : ((b : Int) == 34) = false := by simp; omega
      have g2 : ((b : Int) == 92) = false := by simp; omega
      have g3 : ((b : Int) == 10) = false := by simp; omega
      have g4 : ((b : Int) == 9) = false := by simp; omega
      have g5 : ((b : Int) == 13) = false := by simp; omega
      have g6 : decide ((b : Int) < 32) = false := by simp; omega
      have g7 : decide ((b : Int) > 126) = false := by simp; omega
      have en := enc_ascii b (by omega)
      clear he
      go_wp2_with fail
      go_ret
      exact ⟨ret_str (by rw [HE.out]), 0, rfl⟩
end Go.Proofs.YtmmbbndoimleaaaGreatDoor

/- The iterator of package quote: pieces. -/
namespace Go.Proofs.YtmmbbndoimleaaaGreatDoor
open Go.RowKit

attribute [local go_sem] Oper.semAt_some

/-- A piece is short. -/
abbrev Pz := { x : ByteArray // x.size ≤ 4 }
theorem escN_size (b : Nat) : (escN b).size ≤ 4 := by
  unfold escN
  split
  · show 2 ≤ 4; omega
  · split
    · show 2 ≤ 4; omega
    · split
      · show 2 ≤ 4; omega
      · split
        · show 2 ≤ 4; omega
        · split
          · show 4 ≤ 4; omega
          · show 1 ≤ 4; omega
def escZ (b : Nat) : Pz := ⟨escN b, escN_size b⟩
/-- What has come when k rounds are over. -/
def uptoL (f : Nat → Pz) (k : Nat) : List Pz := (List.range k).map f
theorem uptoL_succ (f : Nat → Pz) (k : Nat) : uptoL f (k + 1) = uptoL f k ++ [f k] := by simp [uptoL, List.range_succ]
theorem uptoL_length (f : Nat → Pz) (k : Nat) : (uptoL f k).length = k := by simp [uptoL]

/-- A block lies as it lay. -/
def KeepB (B : Nat) (W W' : World) : Prop := W'.heap[B]? = W.heap[B]?

set_option maxRecDepth 100000 in
set_option maxHeartbeats 2000000 in
theorem pieces1_in (n : Nat) (hn : 1 ≤ n) (l Bs : Nat) (S : ByteArray) (hS : S.size ≤ 1000000000) (J Jx : List Pz → World → Prop)
    (hY : ∀ pre x W, J pre W → pre.length < S.size → YieldAt Fence.wide (n - 1) Tryz.prog l #[.string x.1] W fun e W' =>
      (e = .returned (.bool true) ∧ J (pre ++ [x]) W' ∧ KeepB Bs W W') ∨ (e = .returned (.bool false) ∧ Jx (pre ++ [x]) W'))
    (W : World) (hJ : AbidesFrom W.heap.size J) (hBs : W.cell? ⟨Bs, 0, none⟩ = some (.string S)) (h0 : J [] W) :
    CallsIn Fence.wide n Tryz.prog 125 #[.func (.yield l) #[] #[], .pointer (some ⟨Bs, 0, none⟩)] W fun e W' => (∃ v, e = .returned v) ∧
      ((∃ ys, ys = uptoL (fun j => escZ (S.get! j).toNat) S.size ∧ J ys W') ∨ (∃ pre : List Pz, True ∧ Jx pre W')) := by
  refine callsIn_of_wp Tryz.func125 rfl trivial ?_ rfl
  simp only [Tryz.ntmps125, List.size_toArray, List.length_cons, List.length_nil, Nat.reduceAdd, Nat.reduceSub, Array.replicate_succ, Array.replicate_zero, List.push_toArray, List.append_toArray, List.nil_append, List.cons_append]
  gi_wp2
  gi_loopw [3, 6] (fun _ i wr => ∃ k : Nat, k ≤ S.size ∧ i = .int .i64 k ∧ J (uptoL (fun j => escZ (S.get! j).toNat) k) wr ∧ KeepB Bs W wr) (fun _ i _ => S.size - (intOf i).toNat)
  case atStart => exact ⟨0, Nat.zero_le _, rfl, h0, rfl⟩
  case round =>
    obtain ⟨k, hk, rfl, hJs, hnx⟩ := hrel
    have hc := (World.cell?_of_block (a := ⟨Bs, 0, none⟩) (show wr.heap[Bs]? = W.heap[Bs]? from hnx)).trans hBs
    by_cases hlt : k < S.size
    · have hgk : (S.get! k).toNat = S[k].toNat := by rw [get_eq S k hlt]
      have hlb : S[k].toNat < 256 := UInt8.toNat_lt _
      obtain ⟨b, hbb⟩ : ∃ b, b = S[k].toNat := ⟨_, rfl⟩
      have hb2 : (S[k].toNat : Int) = (b : Int) := by rw [hbb]
      rw [← hbb] at hlb hgk
      have HESC := hide fun w => escape_run b hlb w
      have HGK := Lib.hid hgk
      have hJd : ∀ q, J (uptoL (fun j => escZ (S.get! j).toNat) k) (wr.drewN q) := fun q => hJ _ wr _ none hJs ⟨rfl, rfl, rfl, Nat.le_refl _, fun _ _ _ => rfl⟩ (fun r e => by cases e)
      have HJD := hide hJd
      have HY := hide hY
      clear hbb hgk hJd hY
      gi_wp2_with fail
      refine ⟨trivial, (callsIn_wide.2 (HESC.out _)).mono ?_⟩
      rintro e w2 ⟨rfl, q, rfl⟩
      obtain ⟨fn, tmps, assign, body, hy, hR⟩ := HY.out _ (escZ b) (wr.drewN q) (HJD.out q) (by rw [uptoL_length]; exact hlt)
      dsimp only [escZ] at hy
      clear hc
      gi_wp2
      refine hR.mono ?_
      rintro e W3 (⟨rfl, hJ3, hk3⟩ | ⟨rfl, hJx3⟩)
      · have HN := hide (show KeepB Bs W W3 from (show W3.heap[Bs]? = wr.heap[Bs]? from hk3).trans hnx)
        have HJ3 := hide hJ3
        clear hJ3 hk3 hnx hJs hy hR
        gi_wp2
        go_roundw
        case rel => exact ⟨k + 1, by omega, by go_num, by rw [uptoL_succ, HGK.out]; exact HJ3.out, HN.out⟩
        case measure => simp [intOf]; omega
      · clear hy hR
        gi_wp2
        refine bodyPost_ret (results_none rfl _ _ _) rfl ?_
        exact ⟨⟨_, rfl⟩, .inr ⟨_, trivial, hJx3⟩⟩
    · obtain rfl : k = S.size := by omega
      gi_wp2
      go_end0
      exact ⟨⟨_, rfl⟩, .inl ⟨_, rfl, hJs⟩⟩
end Go.Proofs.YtmmbbndoimleaaaGreatDoor
