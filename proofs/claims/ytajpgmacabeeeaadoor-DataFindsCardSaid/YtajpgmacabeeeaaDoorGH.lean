/- Sorting members: one member merged into a sorted list; Sorting members: a sorted list takes one member in at its end; Sorting members: two sorted lists side by side are merged in place; Sorting members: symMerge; Sorting members: stable and SortStableFunc, for at most 39 members. -/
import Derived.Test.YtajpgmacabeeeaaDoorGG

/- Sorting members: one member merged into a sorted list. -/
namespace Go.Proofs.YtajpgmacabeeeaaDoor
open Go.RowKit

theorem srt_le {C1 C2 : List Mc} {x : Mc} (h : Sr (C1 ++ C2)) (h1 : ∀ y ∈ C1, leK lab y x) (h2 : ∀ y ∈ C2, leK lab x y) : Sr (C1 ++ x :: C2) := by
  have hab := List.pairwise_append.1 h
  refine List.pairwise_append.2 ⟨hab.1, List.pairwise_cons.2 ⟨h2, hab.2.1⟩, fun u hu y hy => ?_⟩
  rcases List.mem_cons.1 hy with rfl | hy
  · exact h1 u hu
  · exact hab.2.2 u hu y hy
theorem sr_at {B : List Mc} (h : Sr B) {s t : Nat} (hst : s ≤ t) (ht : t < B.length) : leK lab (B[s]'(by omega)) B[t] := by
  rcases Nat.lt_or_ge s t with h1 | h1
  · exact List.pairwise_iff_getElem.1 h s t (by omega) ht h1
  · obtain rfl : s = t := by omega
    exact leK_refl _
theorem lt_of_le_lt {x y z : Mc} (h : leK lab x y) (h' : ltB y.1 z.1 = true) : ltB x.1 z.1 = true := by
  rcases Bool.eq_false_or_eq_true (ltB x.1 z.1) with e | e
  · exact e
  · have : ltB y.1 z.1 = false := leK_trans (k := lab) (x := z) (y := x) (z := y) e h
    rw [this] at h'; cases h'
theorem lt_of_lt_le {x y z : Mc} (h : ltB x.1 y.1 = true) (h' : leK lab y z) : ltB x.1 z.1 = true := by
  rcases Bool.eq_false_or_eq_true (ltB x.1 z.1) with e | e
  · exact e
  · have : ltB x.1 y.1 = false := leK_trans (k := lab) (x := y) (y := z) (z := x) h' e
    rw [this] at h; cases h

theorem SRow.at_ {w : World} {g : Nat} {L : List Mc} {rest : List Value} (h : SRow w g L rest) {i : Nat} {e : Mc} (hi : L[i]? = some e) : six6 w ⟨g, i * 6, none⟩ e := by
  obtain ⟨h1, rfl⟩ := List.getElem?_eq_some_iff.1 hi
  exact h.cells h1
theorem SRow.swp_ {w : World} {g : Nat} {L : List Mc} {rest : List Value} {i j : Nat} {X Y : Mc} (h : SRow w g L rest) (hX : L[i]? = some X) (hY : L[j]? = some Y) :
    SRow (put6 (put6 w ⟨g, i * 6, none⟩ Y) ⟨g, j * 6, none⟩ X) g (Go.Proofs.YtajpgmacabeeeaaDoor.swp L i j) rest ∧ w.grownBy (put6 (put6 w ⟨g, i * 6, none⟩ Y) ⟨g, j * 6, none⟩ X) (some g) := by
  obtain ⟨h1, rfl⟩ := List.getElem?_eq_some_iff.1 hX
  obtain ⟨h2, rfl⟩ := List.getElem?_eq_some_iff.1 hY
  exact h.swp h1 h2 rfl rfl
theorem at_mid {A C : List Mc} {x : Mc} {i : Nat} (h : A.length = i) : (A ++ x :: C)[i]? = some x := by subst h; simp
theorem at_two {A C : List Mc} {x y : Mc} {i : Nat} (h : A.length + 1 = i) : (A ++ x :: y :: C)[i]? = some y := by
  subst h; rw [List.getElem?_append_right (by omega), show A.length + 1 - A.length = 1 by omega]; rfl
theorem at_in {A B S : List Mc} {i t : Nat} (h : A.length + t = i) (ht : t < B.length) : (A ++ B ++ S)[i]? = some B[t] := by
  subst h
  rw [List.append_assoc, List.getElem?_append_right (by omega), List.getElem?_append_left (by omega), show A.length + t - A.length = t by omega, List.getElem?_eq_getElem ht]

attribute [local go_sem] add_head
set_option maxRecDepth 100000 in
set_option maxHeartbeats 4000000 in
/-- The list's first member is merged into the others. -/
theorem symFirst_run (g cap N a m b : Nat) (P : List Mc) (x : Mc) (B S : List Mc) (rest : List Value) (w : World) (h : SRow w g (P ++ x :: B ++ S) rest) (hB : 0 < B.length) (ha : P.length = a) (hm : a + 1 = m) (hb : m + B.length = b) (hN : (P ++ x :: B ++ S).length = N) (hl : N ≤ 1000000000) (hsB : Sr B) :
    Calls Tryd.prog 97 #[.slice (some ⟨g, 0, none⟩) N cap, .int .i64 a, .int .i64 m, .int .i64 b, .func (.func 60) #[] #[]] w fun e w' => e = .returned (.tuple #[]) ∧ ∃ C, Sorted_ C (x :: B) ∧ SRow w' g (P ++ C ++ S) rest ∧ w.grownBy w' (some g) := by
  have hlen : b + S.length = N := by rw [← hN]; simp; omega
  have hmb : m < b := by omega
  have w1 : IntKind.i64.wrap ((m : Int) - (a : Int)) = 1 := by rw [IntWalk.i64_in _ (by omega)]; omega
  have haN : a < N := by omega
  have HS := hide h
  clear h hN
  have HSB := hide hsB
  clear hsB
  go_enter Tryd.func97, Tryd.ntmps97
  go_wp2_with fail
  go_loopw [10, 11, 12] (fun iv jv _ wr => ∃ i j : Nat, iv = .int .i64 i ∧ jv = .int .i64 j ∧ m ≤ i ∧ i ≤ j ∧ j ≤ b ∧ Hid (SRow wr g (P ++ x :: B ++ S) rest) ∧ Hid (w.grownBy wr (some g)) ∧ Hid ((∀ t (h : t < B.length), m + t < i → ltB B[t].1 x.1 = true) ∧ (∀ t (h : t < B.length), j ≤ m + t → ltB B[t].1 x.1 = false))) (fun iv jv _ _ => (intOf jv).toNat - (intOf iv).toNat)
  case atStart => exact ⟨m, b, rfl, rfl, Nat.le_refl _, by omega, Nat.le_refl _, HS, hide (grown_refl _ _), hide ⟨fun t h h' => by omega, fun t h h' => by omega⟩⟩
  case round =>
    clear HS w1
    obtain ⟨i, j, rfl, rfl, hi, hij, hj, hR, hG, hI⟩ := hrel
    by_cases hlt : i < j
    · have e1 : IntKind.i64.wrap ((i : Int) + (j : Int)) = ((i + j : Nat) : Int) := by rw [IntWalk.i64_in _ (by omega)]; omega
      obtain ⟨c, hc⟩ : ∃ c, c = (i + j) / 2 := ⟨_, rfl⟩
      have e2 : ((i : Int) + (j : Int)) / 2 = (c : Int) := by omega
      have hic : i ≤ c := by omega
      have hcj : c < j := by omega
      have hcN : c < N := by omega
      have e3 : IntKind.i64.wrap ((c : Int) + 1) = ((c + 1 : Nat) : Int) := by rw [IntWalk.i64_in _ (by omega)]; omega
      obtain ⟨t, ht⟩ : ∃ t, c = m + t := ⟨c - m, by omega⟩
      have htB : t < B.length := by omega
      obtain ⟨y, hy⟩ : ∃ y, y = B[t] := ⟨_, rfl⟩
      have hx6 := hR.out.at_ (i := a) (e := x) (by simpa using at_mid (A := P) (C := B ++ S) ha)
      have hy6 := hR.out.at_ (i := c) (e := y) (by
        have := at_in (A := P ++ [x]) (B := B) (S := S) (i := c) (t := t) (by simp; omega) htB
        rw [hy, ← this]; simp)
      obtain ⟨z, hz⟩ : ∃ z, z = cmpS y.1 x.1 := ⟨_, rfl⟩
      have HC := hide fun w => lab_run y x w
      rw [← hz] at HC
      unfold mcV mcs at HC
      have HSC := hide fun W (h : Below wr.heap.size wr W) => And.intro (hide (hR.out.below h)) (hide (grown_below hG.out h (Nat.le_refl _)))
      obtain ⟨y0, y1, y2, y3, y4, y5⟩ := hy6
      obtain ⟨x0, x1, x2, x3, x4, x5⟩ := hx6
      have HT := hide (And.intro hc ht)
      clear hc ht
      by_cases hyx : ltB y.1 x.1 = true
      · have g2 : decide ((z : Int) < 0) = true := by rw [hz, cmpS_lt hyx]; rfl
        have HI := hide (show (∀ t (h : t < B.length), m + t < c + 1 → ltB B[t].1 x.1 = true) ∧ (∀ t (h : t < B.length), j ≤ m + t → ltB B[t].1 x.1 = false) from
          ⟨fun t' h' hc' => by
            have := HT.out.2
            exact lt_of_le_lt (sr_at HSB.out (s := t') (t := t) (by omega) htB) (by rw [← hy]; exact hyx), hI.out.2⟩)
        clear hI hz hG hR hy
        go_wp2_with fail
        refine wp_region_still_tail 9 (by kernel_rfl) (by kernel_rfl) ?_
        simp only [List.take_succ_cons, List.take_zero, List.drop_succ_cons, List.drop_zero]
        repeat (first
          | still_step
          | (with_reducible refine wpStill_want ?_ (fun K hK => ?_); kernel_rfl; go_simp; refine hK _ ?_; clear hK K))
        refine wpStill_nil ?_
        go_wp2_with fail
        refine (HC.out _).mono ?_; rintro e w3 ⟨rfl, hB3⟩
        obtain ⟨HS3, HG3⟩ := HSC.out _ ((Below.refl _ _).drew.trans hB3)
        clear HSC HC hB3 y0 y1 y2 y3 y4 y5 x0 x1 x2 x3 x4 x5
        go_wp2_with fail
        go_roundw
        case rel => exact ⟨c + 1, j, by go_num, rfl, by omega, by omega, hj, HS3, HG3, HI⟩
        case measure => simp [intOf]; omega
      · have hyx : ltB y.1 x.1 = false := by simpa using hyx
        have g2 : decide ((z : Int) < 0) = false := by rw [hz]; have := cmpS_ge hyx; simp; omega
        have HI := hide (show (∀ t (h : t < B.length), m + t < i → ltB B[t].1 x.1 = true) ∧ (∀ t (h : t < B.length), c ≤ m + t → ltB B[t].1 x.1 = false) from
          ⟨hI.out.1, fun t' h' hc' => by
            have := HT.out.2
            rcases Bool.eq_false_or_eq_true (ltB B[t'].1 x.1) with e | e
            · have := lt_of_le_lt (sr_at HSB.out (s := t) (t := t') (by omega) h') e
              rw [← hy, hyx] at this; cases this
            · exact e⟩)
        clear hI hz hG hR hy
        go_wp2_with fail
        refine wp_region_still_tail 9 (by kernel_rfl) (by kernel_rfl) ?_
        simp only [List.take_succ_cons, List.take_zero, List.drop_succ_cons, List.drop_zero]
        repeat (first
          | still_step
          | (with_reducible refine wpStill_want ?_ (fun K hK => ?_); kernel_rfl; go_simp; refine hK _ ?_; clear hK K))
        refine wpStill_nil ?_
        go_wp2_with fail
        refine (HC.out _).mono ?_; rintro e w3 ⟨rfl, hB3⟩
        obtain ⟨HS3, HG3⟩ := HSC.out _ ((Below.refl _ _).drew.trans hB3)
        clear HSC HC hB3 y0 y1 y2 y3 y4 y5 x0 x1 x2 x3 x4 x5
        go_wp2_with fail
        go_roundw
        case rel => exact ⟨i, c, rfl, rfl, hi, hic, by omega, HS3, HG3, HI⟩
        case measure => simp [intOf]; omega
    · obtain rfl : i = j := by omega
      obtain ⟨t, ht⟩ : ∃ t, i = m + t := ⟨i - m, by omega⟩
      obtain ⟨B1, hB1⟩ : ∃ l, l = B.take t := ⟨_, rfl⟩
      obtain ⟨B2, hB2⟩ : ∃ l, l = B.drop t := ⟨_, rfl⟩
      have hBB : B1 ++ B2 = B := by rw [hB1, hB2, List.take_append_drop]
      have htl : t ≤ B.length := by omega
      have hl1 : B1.length = t := by rw [hB1, List.length_take]; omega
      have hlo : ∀ y ∈ B1, ltB y.1 x.1 = true := fun y hy => by
        rw [hB1] at hy
        obtain ⟨s, hs, rfl⟩ := List.getElem_of_mem hy
        rw [List.length_take] at hs
        rw [List.getElem_take]
        exact hI.out.1 s (by omega) (by omega)
      have hhi : ∀ y ∈ B2, ltB y.1 x.1 = false := fun y hy => by
        rw [hB2] at hy
        obtain ⟨s, hs, rfl⟩ := List.getElem_of_mem hy
        rw [List.length_drop] at hs
        rw [List.getElem_drop]
        exact hI.out.2 (t + s) (by omega) (by omega)
      have HEND := hide (show Sorted_ (B1 ++ x :: B2) (x :: B) from
        ⟨srt_le (by rw [hBB]; exact HSB.out) (fun y hy => leK_of_lt (k := lab) (hlo y hy)) hhi, by
          have := (StaK.flip (k := lab) (A := [x]) (B := B1) fun u hu y hy => by simp at hu; subst hu; exact (ltB_ne (hlo y hy)).symm).append (StaK.refl B2)
          rw [← hBB]; simpa using this, by rw [← hBB]; simp; omega⟩)
      have e1 : IntKind.i64.wrap ((i : Int) - 1) = ((a + t : Nat) : Int) := by rw [IntWalk.i64_in _ (by omega)]; omega
      have HS1 := hide (show SRow wr g (P ++ (B1.take 0 ++ x :: B1.drop 0) ++ B2 ++ S) rest by rw [← hBB] at hR; simpa using hR.out)
      have htN : a + t < N := by omega
      obtain ⟨q, hq⟩ : ∃ q, q = a + t := ⟨_, rfl⟩
      rw [← hq] at e1 htN
      have haq : a ≤ q := by omega
      have HL := hide (show a + B1.length = q ∧ (P ++ B1 ++ B2 ++ S).length + 1 = N from ⟨by omega, by
        have := congrArg List.length hBB; simp at this ⊢; omega⟩)
      clear hR hI hB1 hB2 hBB hlo hhi ht hl1 hq htl
      go_wp2_with fail
      go_loopw [13] (fun kv wk => ∃ k : Nat, kv = .int .i64 k ∧ a ≤ k ∧ k ≤ q ∧ Hid (w.grownBy wk (some g)) ∧ Hid (SRow wk g (P ++ (B1.take (k - a) ++ x :: B1.drop (k - a)) ++ B2 ++ S) rest)) (fun kv _ => N - (intOf kv).toNat)
      case atStart => exact ⟨a, rfl, Nat.le_refl _, haq, hG, by rw [Nat.sub_self]; exact HS1⟩
      case round =>
        clear HS1 hG
        obtain ⟨k, rfl, hk, hkq, hG, hR⟩ := hrel
        by_cases hkl : k < q
        · have e3 : IntKind.i64.wrap ((k : Int) + 1) = ((k + 1 : Nat) : Int) := by rw [IntWalk.i64_in _ (by omega)]; omega
          obtain ⟨p, hp⟩ : ∃ p, p = k + 1 := ⟨_, rfl⟩
          have e4 : IntKind.i64.wrap ((k : Int) + 1) = ((p : Nat) : Int) := by rw [e3, hp]
          have hkp : k < p := by omega
          have hkp6 : k * 6 + 6 ≤ p * 6 := by omega
          have hkN : k < N := by omega
          have hpN : p < N := by omega
          obtain ⟨n, hn⟩ : ∃ n, n = k - a := ⟨_, rfl⟩
          have hn1 : n < B1.length := by have := HL.out.1; omega
          obtain ⟨y, hy⟩ : ∃ y, y = B1[n] := ⟨_, rfl⟩
          have hr := hR.out
          rw [← hn, drop_at hn1, ← hy, show P ++ (B1.take n ++ x :: y :: B1.drop (n + 1)) ++ B2 ++ S = (P ++ B1.take n) ++ x :: y :: (B1.drop (n + 1) ++ B2 ++ S) by simp] at hr
          have hAl : (P ++ B1.take n).length = k := by simp [List.length_take]; omega
          have hX := at_mid (A := P ++ B1.take n) (x := x) (C := y :: (B1.drop (n + 1) ++ B2 ++ S)) hAl
          have hY := at_two (A := P ++ B1.take n) (x := x) (y := y) (C := B1.drop (n + 1) ++ B2 ++ S) (i := p) (by rw [hAl, hp])
          have hsw := hr.swp_ hX hY
          have hx6 := hr.at_ hX
          have hy6 := hr.at_ hY
          rw [swp_next _ _ _ _ k p hAl.symm (by rw [hAl, hp]), show (P ++ B1.take n) ++ y :: x :: (B1.drop (n + 1) ++ B2 ++ S) = P ++ (B1.take (k + 1 - a) ++ x :: B1.drop (k + 1 - a)) ++ B2 ++ S by
            rw [show k + 1 - a = n + 1 by omega, List.take_add_one, List.getElem?_eq_getElem hn1, ← hy]; simp] at hsw
          have hgr := hG.out.trans hsw.2
          have hsw := hsw.1
          dsimp only [put6] at hsw hgr
          have HSW := hide hsw.drew
          have HGR := hide (grown_drew hgr)
          obtain ⟨f0, f1, f2, f3, f4, f5⟩ := hr.free (k * 6)
          obtain ⟨k0, k1, k2, k3, k4, k5⟩ := hr.free (p * 6)
          have HP := hide hp
          clear hsw hgr hr hX hY hAl hy hn1 hn hR hG hp e3
          obtain ⟨y0, y1, y2, y3, y4, y5⟩ := hy6
          obtain ⟨x0, x1, x2, x3, x4, x5⟩ := hx6
          go_wp2_with fail
          go_region
          all_goals go_wp2_with fail
          all_goals
            go_roundw
            case rel => exact ⟨k + 1, by rw [HP.out], by omega, by omega, HGR, HSW⟩
            case measure => simp [intOf]; have := HP.out; omega
        · obtain rfl : k = q := by omega
          have HE := hide (show SRow wr g (P ++ (B1 ++ x :: B2) ++ S) rest by
            have := hR.out
            rw [show k - a = B1.length by have := HL.out.1; omega, List.take_length, List.drop_length] at this
            simpa using this)
          clear hR
          go_wp2_with fail
          refine bodyPost_ret (results_none rfl _ _ _) rfl ?_
          exact ⟨rfl, _, HEND.out, HE.out, hG.out⟩
end Go.Proofs.YtajpgmacabeeeaaDoor

/- Sorting members: a sorted list takes one member in at its end. -/
namespace Go.Proofs.YtajpgmacabeeeaaDoor
open Go.RowKit

attribute [local go_sem] add_head
set_option maxRecDepth 100000 in
set_option maxHeartbeats 4000000 in
/-- The list's last member is merged into the others. -/
theorem symLast_run (g cap N a m b : Nat) (P : List Mc) (x : Mc) (A S : List Mc) (rest : List Value) (w : World) (h : SRow w g (P ++ A ++ x :: S) rest) (hA : 1 < A.length) (ha : P.length = a) (hm : a + A.length = m) (hb : m + 1 = b) (hN : (P ++ A ++ x :: S).length = N) (hl : N ≤ 1000000000) (hsA : Sr A) :
    Calls Tryd.prog 97 #[.slice (some ⟨g, 0, none⟩) N cap, .int .i64 a, .int .i64 m, .int .i64 b, .func (.func 60) #[] #[]] w fun e w' => e = .returned (.tuple #[]) ∧ ∃ C, Sorted_ C (A ++ [x]) ∧ SRow w' g (P ++ C ++ S) rest ∧ w.grownBy w' (some g) := by
  have hlen : b + S.length = N := by rw [← hN]; simp; omega
  obtain ⟨la, hla⟩ : ∃ l, l = A.length := ⟨_, rfl⟩
  have w1 : IntKind.i64.wrap ((m : Int) - (a : Int)) = (la : Int) := by rw [IntWalk.i64_in _ (by omega)]; omega
  have w2 : IntKind.i64.wrap ((b : Int) - (m : Int)) = 1 := by rw [IntWalk.i64_in _ (by omega)]; omega
  have g0 : ((la : Int) == 1) = false := beq_false_of_ne (by omega)
  have hmN : m < N := by omega
  have ham : a < m := by omega
  have HS := hide h
  have HSA := hide hsA
  have HLA := hide hla
  clear h hN hsA hla
  go_enter Tryd.func97, Tryd.ntmps97
  go_wp2_with fail
  go_loopw [14, 15, 16] (fun iv jv _ wr => ∃ i j : Nat, iv = .int .i64 i ∧ jv = .int .i64 j ∧ a ≤ i ∧ i ≤ j ∧ j ≤ m ∧ Hid (SRow wr g (P ++ A ++ x :: S) rest) ∧ Hid (w.grownBy wr (some g)) ∧ Hid ((∀ t (h : t < A.length), a + t < i → ltB x.1 A[t].1 = false) ∧ (∀ t (h : t < A.length), j ≤ a + t → ltB x.1 A[t].1 = true))) (fun iv jv _ _ => (intOf jv).toNat - (intOf iv).toNat)
  case atStart => exact ⟨a, m, rfl, rfl, Nat.le_refl _, by omega, Nat.le_refl _, HS, hide (grown_refl _ _), hide ⟨fun t h h' => by omega, fun t h h' => by omega⟩⟩
  case round =>
    clear HS w1 w2
    obtain ⟨i, j, rfl, rfl, hi, hij, hj, hR, hG, hI⟩ := hrel
    by_cases hlt : i < j
    · have e1 : IntKind.i64.wrap ((i : Int) + (j : Int)) = ((i + j : Nat) : Int) := by rw [IntWalk.i64_in _ (by omega)]; omega
      obtain ⟨c, hc⟩ : ∃ c, c = (i + j) / 2 := ⟨_, rfl⟩
      have e2 : ((i : Int) + (j : Int)) / 2 = (c : Int) := by omega
      have hic : i ≤ c := by omega
      have hcj : c < j := by omega
      have hcN : c < N := by omega
      have e3 : IntKind.i64.wrap ((c : Int) + 1) = ((c + 1 : Nat) : Int) := by rw [IntWalk.i64_in _ (by omega)]; omega
      obtain ⟨t, ht⟩ : ∃ t, c = a + t := ⟨c - a, by omega⟩
      have htA : t < A.length := by omega
      obtain ⟨y, hy⟩ : ∃ y, y = A[t] := ⟨_, rfl⟩
      have hx6 := hR.out.at_ (i := m) (e := x) (at_mid (by simp; omega))
      have hy6 := hR.out.at_ (i := c) (e := y) (by rw [hy]; exact at_in (by omega) htA)
      obtain ⟨z, hz⟩ : ∃ z, z = cmpS x.1 y.1 := ⟨_, rfl⟩
      have HC := hide fun w => lab_run x y w
      rw [← hz] at HC
      unfold mcV mcs at HC
      have HSC := hide fun W (h : Below wr.heap.size wr W) => And.intro (hide (hR.out.below h)) (hide (grown_below hG.out h (Nat.le_refl _)))
      obtain ⟨y0, y1, y2, y3, y4, y5⟩ := hy6
      obtain ⟨x0, x1, x2, x3, x4, x5⟩ := hx6
      have HT := hide (And.intro hc ht)
      clear hc ht
      by_cases hyx : ltB x.1 y.1 = true
      · have g2 : decide ((z : Int) < 0) = true := by rw [hz, cmpS_lt hyx]; rfl
        have HI := hide (show (∀ t (h : t < A.length), a + t < i → ltB x.1 A[t].1 = false) ∧ (∀ t (h : t < A.length), c ≤ a + t → ltB x.1 A[t].1 = true) from
          ⟨hI.out.1, fun t' h' hc' => by
            have := HT.out.2
            exact lt_of_lt_le (by rw [← hy]; exact hyx) (sr_at HSA.out (s := t) (t := t') (by omega) h')⟩)
        clear hI hz hG hR hy
        go_wp2_with fail
        refine wp_region_still_tail 9 (by kernel_rfl) (by kernel_rfl) ?_
        simp only [List.take_succ_cons, List.take_zero, List.drop_succ_cons, List.drop_zero]
        repeat (first
          | still_step
          | (with_reducible refine wpStill_want ?_ (fun K hK => ?_); kernel_rfl; go_simp; refine hK _ ?_; clear hK K))
        refine wpStill_nil ?_
        go_wp2_with fail
        refine (HC.out _).mono ?_; rintro e w3 ⟨rfl, hB3⟩
        obtain ⟨HS3, HG3⟩ := HSC.out _ ((Below.refl _ _).drew.trans hB3)
        clear HSC HC hB3 y0 y1 y2 y3 y4 y5 x0 x1 x2 x3 x4 x5
        go_wp2_with fail
        go_roundw
        case rel => exact ⟨i, c, rfl, rfl, hi, hic, by omega, HS3, HG3, HI⟩
        case measure => simp [intOf]; omega
      · have hyx : ltB x.1 y.1 = false := by simpa using hyx
        have g2 : decide ((z : Int) < 0) = false := by rw [hz]; have := cmpS_ge hyx; simp; omega
        have HI := hide (show (∀ t (h : t < A.length), a + t < c + 1 → ltB x.1 A[t].1 = false) ∧ (∀ t (h : t < A.length), j ≤ a + t → ltB x.1 A[t].1 = true) from
          ⟨fun t' h' hc' => by
            have := HT.out.2
            exact leK_trans (k := lab) (sr_at HSA.out (s := t') (t := t) (by omega) htA) (by rw [← hy]; exact hyx), hI.out.2⟩)
        clear hI hz hG hR hy
        go_wp2_with fail
        refine wp_region_still_tail 9 (by kernel_rfl) (by kernel_rfl) ?_
        simp only [List.take_succ_cons, List.take_zero, List.drop_succ_cons, List.drop_zero]
        repeat (first
          | still_step
          | (with_reducible refine wpStill_want ?_ (fun K hK => ?_); kernel_rfl; go_simp; refine hK _ ?_; clear hK K))
        refine wpStill_nil ?_
        go_wp2_with fail
        refine (HC.out _).mono ?_; rintro e w3 ⟨rfl, hB3⟩
        obtain ⟨HS3, HG3⟩ := HSC.out _ ((Below.refl _ _).drew.trans hB3)
        clear HSC HC hB3 y0 y1 y2 y3 y4 y5 x0 x1 x2 x3 x4 x5
        go_wp2_with fail
        go_roundw
        case rel => exact ⟨c + 1, j, by go_num, rfl, by omega, by omega, hj, HS3, HG3, HI⟩
        case measure => simp [intOf]; omega
    · obtain rfl : i = j := by omega
      obtain ⟨t, ht⟩ : ∃ t, i = a + t := ⟨i - a, by omega⟩
      obtain ⟨B1, hB1⟩ : ∃ l, l = A.take t := ⟨_, rfl⟩
      obtain ⟨B2, hB2⟩ : ∃ l, l = A.drop t := ⟨_, rfl⟩
      have hBB : B1 ++ B2 = A := by rw [hB1, hB2, List.take_append_drop]
      have htl : t ≤ A.length := by have := HLA.out; omega
      have hl1 : B1.length = t := by rw [hB1, List.length_take]; omega
      have hl2 : B2.length = A.length - t := by rw [hB2, List.length_drop]
      have hlo : ∀ y ∈ B1, ltB x.1 y.1 = false := fun y hy => by
        rw [hB1] at hy
        obtain ⟨s, hs, rfl⟩ := List.getElem_of_mem hy
        rw [List.length_take] at hs
        rw [List.getElem_take]
        exact hI.out.1 s (by omega) (by omega)
      have hhi : ∀ y ∈ B2, ltB x.1 y.1 = true := fun y hy => by
        rw [hB2] at hy
        obtain ⟨s, hs, rfl⟩ := List.getElem_of_mem hy
        rw [List.length_drop] at hs
        rw [List.getElem_drop]
        exact hI.out.2 (t + s) (by omega) (by omega)
      have HEND := hide (show Sorted_ (B1 ++ x :: B2) (A ++ [x]) from
        ⟨srt_put (by rw [hBB]; exact HSA.out) hlo hhi, by
          have := sta_put (C1 := B1) (C2 := B2) (x := x) (R := []) (M := A ++ [x]) (by rw [hBB]; exact StaK.refl _) hhi
          simpa using this, by rw [← hBB]; simp <;> omega⟩)
      have HS1 := hide (show SRow wr g (P ++ B1 ++ (B2.take (m - i) ++ x :: B2.drop (m - i)) ++ S) rest by
        rw [show m - i = B2.length by omega, List.take_length, List.drop_length]
        rw [← hBB] at hR; simpa using hR.out)
      have HL := hide (show a + B1.length = i ∧ i + B2.length = m from ⟨by omega, by omega⟩)
      clear hR hI hB1 hB2 hBB hlo hhi ht hl1 hl2 htl hm
      go_wp2_with fail
      go_loopw [17] (fun kv wk => ∃ k : Nat, kv = .int .i64 k ∧ i ≤ k ∧ k ≤ m ∧ Hid (w.grownBy wk (some g)) ∧ Hid (SRow wk g (P ++ B1 ++ (B2.take (k - i) ++ x :: B2.drop (k - i)) ++ S) rest)) (fun kv _ => (intOf kv).toNat)
      case atStart => exact ⟨m, rfl, by omega, Nat.le_refl _, hG, HS1⟩
      case round =>
        clear HS1 hG
        obtain ⟨k, rfl, hk, hkm, hG, hR⟩ := hrel
        by_cases hkl : i < k
        · have e3 : IntKind.i64.wrap ((k : Int) - 1) = ((k - 1 : Nat) : Int) := by rw [IntWalk.i64_in _ (by omega)]; omega
          obtain ⟨p, hp⟩ : ∃ p, p = k - 1 := ⟨_, rfl⟩
          rw [← hp] at e3
          have hkp : p < k := by omega
          have hkp6 : p * 6 + 6 ≤ k * 6 := by omega
          have hkN : k < N := by omega
          have hpN : p < N := by omega
          have g3 : decide ((k : Int) > (i : Int)) = true := by simp; omega
          obtain ⟨n, hn⟩ : ∃ n, n = p - i := ⟨_, rfl⟩
          have hn1 : n < B2.length := by have := HL.out.2; omega
          obtain ⟨y, hy⟩ : ∃ y, y = B2[n] := ⟨_, rfl⟩
          have hr := hR.out
          rw [show k - i = n + 1 by omega, List.take_add_one, List.getElem?_eq_getElem hn1, ← hy, show P ++ B1 ++ (B2.take n ++ (some y).toList ++ x :: B2.drop (n + 1)) ++ S = (P ++ B1 ++ B2.take n) ++ y :: x :: (B2.drop (n + 1) ++ S) by simp] at hr
          have hAl : (P ++ B1 ++ B2.take n).length = p := by have := HL.out.1; simp [List.length_take]; omega
          have hY := at_mid (A := P ++ B1 ++ B2.take n) (x := y) (C := x :: (B2.drop (n + 1) ++ S)) hAl
          have hX := at_two (A := P ++ B1 ++ B2.take n) (x := y) (y := x) (C := B2.drop (n + 1) ++ S) (i := k) (by rw [hAl]; omega)
          have hsw := hr.swp_ hX hY
          have hx6 := hr.at_ hX
          have hy6 := hr.at_ hY
          rw [swp_back _ _ _ _ k p (by rw [hAl]; omega) hAl.symm, show (P ++ B1 ++ B2.take n) ++ x :: y :: (B2.drop (n + 1) ++ S) = P ++ B1 ++ (B2.take (k - 1 - i) ++ x :: B2.drop (k - 1 - i)) ++ S by
            rw [show k - 1 - i = n by omega, drop_at hn1, ← hy]; simp] at hsw
          have hgr := hG.out.trans hsw.2
          have hsw := hsw.1
          dsimp only [put6] at hsw hgr
          have HSW := hide hsw.drew
          have HGR := hide (grown_drew hgr)
          obtain ⟨f0, f1, f2, f3, f4, f5⟩ := hr.free (k * 6)
          obtain ⟨k0, k1, k2, k3, k4, k5⟩ := hr.free (p * 6)
          have HP := hide hp
          clear hsw hgr hr hX hY hAl hy hn1 hn hR hG hp
          obtain ⟨y0, y1, y2, y3, y4, y5⟩ := hy6
          obtain ⟨x0, x1, x2, x3, x4, x5⟩ := hx6
          go_wp2_with fail
          go_region
          all_goals go_wp2_with fail
          all_goals
            go_roundw
            case rel => exact ⟨k - 1, by rw [HP.out], by omega, by omega, HGR, HSW⟩
            case measure => simp [intOf]; have := HP.out; omega
        · obtain rfl : k = i := by omega
          have g3 : decide ((k : Int) > (k : Int)) = false := by simp
          have HE := hide (show SRow wr g (P ++ (B1 ++ x :: B2) ++ S) rest by
            have := hR.out
            rw [Nat.sub_self] at this
            simpa using this)
          clear hR
          go_wp2_with fail
          refine bodyPost_ret (results_none rfl _ _ _) rfl ?_
          exact ⟨rfl, _, HEND.out, HE.out, hG.out⟩
end Go.Proofs.YtajpgmacabeeeaaDoor

/- Sorting members: two sorted lists side by side are merged in place. -/
namespace Go.Proofs.YtajpgmacabeeeaaDoor
open Go.RowKit

/-- Where the two lists are cut. -/
theorem sym_join {A1 A2 B1 B2 C1 C2 : List Mc} (hA : Sr (A1 ++ A2)) (hB : Sr (B1 ++ B2)) (h1 : Sorted_ C1 (A1 ++ B1)) (h2 : Sorted_ C2 (A2 ++ B2))
    (hlt : ∀ u ∈ B1, ∀ v ∈ A2, ltB u.1 v.1 = true) (hle : ∀ u ∈ A1, ∀ v ∈ B2, leK lab u v) : Sorted_ (C1 ++ C2) ((A1 ++ A2) ++ (B1 ++ B2)) := by
  refine ⟨List.pairwise_append.2 ⟨h1.1, h2.1, fun u hu v hv => ?_⟩, ?_, by have := h1.2.2; have := h2.2.2; simp at *; omega⟩
  · rcases List.mem_append.1 (h1.2.1.mem hu) with hu | hu
    · rcases List.mem_append.1 (h2.2.1.mem hv) with hv | hv
      · exact (List.pairwise_append.1 hA).2.2 u hu v hv
      · exact hle u hu v hv
    · rcases List.mem_append.1 (h2.2.1.mem hv) with hv | hv
      · exact leK_of_lt (k := lab) (hlt u hu v hv)
      · exact (List.pairwise_append.1 hB).2.2 u hu v hv
  · have e1 := h1.2.1.append h2.2.1
    have e2 := ((StaK.refl (k := lab) A1).append (StaK.flip (k := lab) (A := A2) (B := B1) fun u hu v hv => (ltB_ne (hlt v hv u hu)).symm)).append (StaK.refl B2)
    have e3 := e1.trans (c := A1 ++ (B1 ++ A2) ++ B2) (by simpa using StaK.refl _)
    simpa using e3.trans e2
theorem sorted_one {A : List Mc} (h : Sr A) : Sorted_ A A := ⟨h, StaK.refl _, rfl⟩
/-- What the search of the cut has found. -/
def Cut (A B : List Mc) (a m n s r lo hi : Nat) : Prop :=
  (∀ c t u, lo ≤ c → c < s → c = a + t → n - 1 - c = m + u → ∀ (ht : t < A.length) (hu : u < B.length), ltB B[u].1 A[t].1 = false) ∧
  (∀ c t u, r ≤ c → c < hi → c = a + t → n - 1 - c = m + u → ∀ (ht : t < A.length) (hu : u < B.length), ltB B[u].1 A[t].1 = true)
theorem Cut.fin {A B : List Mc} {a m b n mid s lo hi : Nat} (h : Cut A B a m n s s lo hi) (hA : Sr A) (hB : Sr B) (ham : m = a + A.length) (hmb : b = m + B.length) (hn : n = mid + m) (hmid : mid = (a + b) / 2)
    (hlo : lo ≤ s) (hhi : s ≤ hi) (hc : mid < m ∧ lo = n - b ∧ hi = mid ∨ m ≤ mid ∧ lo = a ∧ hi = m) :
    a ≤ s ∧ s ≤ m ∧ m ≤ n - s ∧ n - s ≤ b ∧ s ≤ mid ∧ mid ≤ n - s ∧ (∀ u ∈ B.take (n - s - m), ∀ v ∈ A.drop (s - a), ltB u.1 v.1 = true) ∧ (∀ u ∈ A.take (s - a), ∀ v ∈ B.drop (n - s - m), leK lab u v) := by
  have hb : a ≤ s ∧ s ≤ m ∧ m ≤ n - s ∧ n - s ≤ b ∧ s ≤ mid ∧ mid ≤ n - s := by
    rcases hc with ⟨h1, rfl, rfl⟩ | ⟨h1, rfl, rfl⟩ <;> omega
  refine ⟨hb.1, hb.2.1, hb.2.2.1, hb.2.2.2.1, hb.2.2.2.2.1, hb.2.2.2.2.2, fun u hu v hv => ?_, fun u hu v hv => ?_⟩
  · obtain ⟨p, hp, rfl⟩ := List.getElem_of_mem hu
    obtain ⟨q, hq, rfl⟩ := List.getElem_of_mem hv
    rw [List.length_take] at hp
    rw [List.length_drop] at hq
    rw [List.getElem_take, List.getElem_drop]
    have hsh : s < hi := by rcases hc with ⟨h1, rfl, rfl⟩ | ⟨h1, rfl, rfl⟩ <;> omega
    have hl := h.2 s (s - a) (n - 1 - s - m) (Nat.le_refl _) hsh (by omega) (by omega) (by omega) (by omega)
    exact lt_of_le_lt (sr_at hB (s := p) (t := n - 1 - s - m) (by omega) (by omega)) (lt_of_lt_le hl (sr_at hA (s := s - a) (t := s - a + q) (by omega) (by omega)))
  · obtain ⟨p, hp, rfl⟩ := List.getElem_of_mem hu
    obtain ⟨q, hq, rfl⟩ := List.getElem_of_mem hv
    rw [List.length_take] at hp
    rw [List.length_drop] at hq
    rw [List.getElem_take, List.getElem_drop]
    have hsh : lo < s := by rcases hc with ⟨h1, rfl, rfl⟩ | ⟨h1, rfl, rfl⟩ <;> omega
    have hl := h.1 (s - 1) (s - 1 - a) (n - s - m) (by omega) (by omega) (by omega) (by omega) (by omega) (by omega)
    exact leK_trans (k := lab) (sr_at hA (s := p) (t := s - 1 - a) (by omega) (by omega)) (leK_trans (k := lab) hl (sr_at hB (s := n - s - m) (t := n - s - m + q) (by omega) (by omega)))
theorem Cut.low {A B : List Mc} {a m n s r lo hi c : Nat} (h : Cut A B a m n s r lo hi) (hA : Sr A) (hB : Sr B) {t u : Nat} (hct : c = a + t) (hcu : n - 1 - c = m + u) (hn : c < n) (ht : t < A.length) (hu : u < B.length)
    (hlt : ltB B[u].1 A[t].1 = false) : Cut A B a m n (c + 1) r lo hi := by
  refine ⟨fun c' t' u' h1 h2 h3 h4 ht' hu' => ?_, h.2⟩
  exact leK_trans (k := lab) (sr_at hA (s := t') (t := t) (by omega) ht) (leK_trans (k := lab) hlt (sr_at hB (s := u) (t := u') (by omega) hu'))
theorem Cut.high {A B : List Mc} {a m n s r lo hi c : Nat} (h : Cut A B a m n s r lo hi) (hA : Sr A) (hB : Sr B) {t u : Nat} (hct : c = a + t) (hcu : n - 1 - c = m + u) (ht : t < A.length) (hu : u < B.length)
    (hlt : ltB B[u].1 A[t].1 = true) : Cut A B a m n s c lo hi := by
  refine ⟨h.1, fun c' t' u' h1 h2 h3 h4 ht' hu' => ?_⟩
  exact lt_of_le_lt (sr_at hB (s := u') (t := u) (by omega) hu) (lt_of_lt_le hlt (sr_at hA (s := t) (t := t') (by omega) ht'))
theorem cut_start (A B : List Mc) (a m n lo hi : Nat) : Cut A B a m n lo hi lo hi := ⟨fun c t u h1 h2 => by omega, fun c t u h1 h2 => by omega⟩
end Go.Proofs.YtajpgmacabeeeaaDoor

/- Sorting members: symMerge. -/
namespace Go.Proofs.YtajpgmacabeeeaaDoor
open Go.RowKit

attribute [local go_sem] add_head
set_option maxRecDepth 100000 in
set_option maxHeartbeats 8000000 in
/-- Two sorted lists side by side are merged. -/
theorem symMerge_run (g cap N : Nat) (rest : List Value) (hl : N ≤ 1000000000) : ∀ (f : Nat) (P A B S : List Mc) (a m b : Nat) (w : World), A.length + B.length ≤ f → SRow w g (P ++ A ++ B ++ S) rest → 0 < A.length → 0 < B.length → P.length = a → a + A.length = m → m + B.length = b → (P ++ A ++ B ++ S).length = N → Sr A → Sr B →
    Calls Tryd.prog 97 #[.slice (some ⟨g, 0, none⟩) N cap, .int .i64 a, .int .i64 m, .int .i64 b, .func (.func 60) #[] #[]] w fun e w' => e = .returned (.tuple #[]) ∧ ∃ C, Sorted_ C (A ++ B) ∧ SRow w' g (P ++ C ++ S) rest ∧ w.grownBy w' (some g) := by
  intro f
  induction f with
  | zero => intro P A B S a m b w hf _ hA; omega
  | succ f ih =>
    intro P A B S a m b w hf h hA hB ha hm hb hN hsA hsB
    by_cases hA1 : A.length = 1
    · obtain ⟨x, rfl⟩ := List.length_eq_one_iff.1 hA1
      have := symFirst_run g cap N a m b P x B S rest w (by simpa using h) hB ha (by simpa using hm) hb (by simpa using hN) hl hsB
      simpa using this
    by_cases hB1 : B.length = 1
    · obtain ⟨x, rfl⟩ := List.length_eq_one_iff.1 hB1
      have := symLast_run g cap N a m b P x A S rest w (by simpa using h) (by omega) ha hm (by simpa using hb) (by simpa using hN) hl hsA
      simpa using this
    have IH := hide ih
    have hlen : b + S.length = N := by rw [← hN]; simp; omega
    obtain ⟨la, hla⟩ : ∃ l, l = A.length := ⟨_, rfl⟩
    obtain ⟨lb, hlb⟩ : ∃ l, l = B.length := ⟨_, rfl⟩
    have w1 : IntKind.i64.wrap ((m : Int) - (a : Int)) = (la : Int) := by rw [IntWalk.i64_in _ (by omega)]; omega
    have w2 : IntKind.i64.wrap ((b : Int) - (m : Int)) = (lb : Int) := by rw [IntWalk.i64_in _ (by omega)]; omega
    have g0 : ((la : Int) == 1) = false := beq_false_of_ne (by omega)
    have g00 : ((lb : Int) == 1) = false := beq_false_of_ne (by omega)
    have e1 : IntKind.i64.wrap ((a : Int) + (b : Int)) = ((a + b : Nat) : Int) := by rw [IntWalk.i64_in _ (by omega)]; omega
    obtain ⟨md, hmd⟩ : ∃ c, c = (a + b) / 2 := ⟨_, rfl⟩
    have e2 : ((a : Int) + (b : Int)) / 2 = (md : Int) := by omega
    obtain ⟨n, hn⟩ : ∃ n, n = md + m := ⟨_, rfl⟩
    have e3 : IntKind.i64.wrap ((md : Int) + (m : Int)) = (n : Int) := by rw [IntWalk.i64_in _ (by omega)]; omega
    obtain ⟨nb, hnb⟩ : ∃ x, x = n - b := ⟨_, rfl⟩
    have HE4 := hide (show md < m → IntKind.i64.wrap ((n : Int) - (b : Int)) = (nb : Int) from fun h => by rw [IntWalk.i64_in _ (by omega)]; omega)
    obtain ⟨p, hp⟩ : ∃ p, p = n - 1 := ⟨_, rfl⟩
    have e5 : IntKind.i64.wrap ((n : Int) - 1) = (p : Int) := by rw [IntWalk.i64_in _ (by omega)]; omega
    have ham : a < m := by omega
    have hmb : m < b := by omega
    have hamd : a < md := by omega
    have hmdb : md < b := by omega
    have hbN : b ≤ N := by omega
    have HS := hide h
    have HSA := hide hsA
    have HSB := hide hsB
    have HF := hide (show la = A.length ∧ lb = B.length ∧ md = (a + b) / 2 ∧ n = md + m ∧ p = n - 1 ∧ P.length = a ∧ a + A.length = m ∧ m + B.length = b ∧ b + S.length = N ∧ A.length + B.length ≤ f + 1 from ⟨hla, hlb, hmd, hn, hp, ha, hm, hb, hlen, hf⟩)
    have HNB := hide hnb
    have HAB := hide (show md < m → (md < m ∧ nb = n - b ∧ md = md ∨ m ≤ md ∧ nb = a ∧ md = m) ∧ nb ≤ md ∧ a ≤ nb from fun h => ⟨.inl ⟨h, hnb, rfl⟩, by omega, by omega⟩)
    have HN := hide hN
    clear h hsA hsB hla hlb hmd hn hp hnb hN hA1 hB1 hA hB ha hm hb hf ih hlen
    go_enter Tryd.func97, Tryd.ntmps97
    go_upto_if 140 with fail
    go_cut [20, 21] from 140 to 146 (fun sv rv wc => ∃ s r : Nat, sv = .int .i64 s ∧ rv = .int .i64 r ∧ s ≤ r ∧ w = wc ∧ Hid (∃ lo hi, (md < m ∧ lo = n - b ∧ hi = md ∨ m ≤ md ∧ lo = a ∧ hi = m) ∧ lo ≤ s ∧ s ≤ r ∧ r ≤ hi ∧ Cut A B a m n s r lo hi))
    case first =>
      by_cases hmm : md < m
      · have g1 : decide ((m : Int) > (md : Int)) = true := by simp; omega
        have e4 := HE4.out hmm
        have HC := hide (show ∃ lo hi, (md < m ∧ lo = n - b ∧ hi = md ∨ m ≤ md ∧ lo = a ∧ hi = m) ∧ lo ≤ nb ∧ nb ≤ md ∧ md ≤ hi ∧ Cut A B a m n nb md lo hi from
          ⟨nb, md, .inl ⟨hmm, HNB.out, rfl⟩, Nat.le_refl _, (HAB.out hmm).2.1, Nat.le_refl _, cut_start ..⟩)
        have hs0 : nb ≤ md := (HAB.out hmm).2.1
        go_wp2_with fail
        go_meet
        case rel => exact ⟨nb, md, rfl, rfl, hs0, rfl, HC⟩
      · have g1 : decide ((m : Int) > (md : Int)) = false := by simp; omega
        have HC := hide (show ∃ lo hi, (md < m ∧ lo = n - b ∧ hi = md ∨ m ≤ md ∧ lo = a ∧ hi = m) ∧ lo ≤ a ∧ a ≤ m ∧ m ≤ hi ∧ Cut A B a m n a m lo hi from
          ⟨a, m, .inr ⟨by omega, rfl, rfl⟩, Nat.le_refl _, by omega, Nat.le_refl _, cut_start ..⟩)
        go_wp2_with fail
        go_meet
        case rel => exact ⟨a, m, rfl, rfl, by omega, rfl, HC⟩
    case rest =>
      obtain ⟨s0, r0, rfl, rfl, hsr0, rfl, HI0⟩ := hcut
      clear HAB HE4 HNB
      have HG0 := hide (grown_refl w (some g))
      go_wp2_with fail
      go_loopw [20, 21, 23] (fun iv jv _ wr => ∃ s r : Nat, iv = .int .i64 s ∧ jv = .int .i64 r ∧ s ≤ r ∧ Hid (SRow wr g (P ++ A ++ B ++ S) rest) ∧ Hid (w.grownBy wr (some g)) ∧ Hid (∃ lo hi, (md < m ∧ lo = n - b ∧ hi = md ∨ m ≤ md ∧ lo = a ∧ hi = m) ∧ lo ≤ s ∧ s ≤ r ∧ r ≤ hi ∧ Cut A B a m n s r lo hi)) (fun iv jv _ _ => (intOf jv).toNat - (intOf iv).toNat)
      case atStart => exact ⟨s0, r0, rfl, rfl, hsr0, HS, HG0, HI0⟩
      case round =>
        clear HS HG0
        clear HI0
        clear w1 w2 g0 g00 e1 e2 e3 e5 hsr0
        obtain ⟨s, r, rfl, rfl, hsr, hR, hG, hI⟩ := hrel
        obtain ⟨lo, hi, hc, hlo, hsr', hhi, hcut⟩ := hI.out
        obtain ⟨fa, fb, fmd, fn, fp, fP, fA, fB, fS, ff⟩ := HF.out
        by_cases hlt : s < r
        · have e1 : IntKind.i64.wrap ((s : Int) + (r : Int)) = ((s + r : Nat) : Int) := by rw [IntWalk.i64_in _ (by omega)]; omega
          obtain ⟨c, hc'⟩ : ∃ c, c = (s + r) / 2 := ⟨_, rfl⟩
          have e2 : ((s : Int) + (r : Int)) / 2 = (c : Int) := by omega
          have hac : a ≤ c ∧ c < m ∧ m ≤ n - 1 - c ∧ n - 1 - c < b ∧ c < n := by
            rcases hc with ⟨h1, rfl, rfl⟩ | ⟨h1, rfl, rfl⟩ <;> omega
          obtain ⟨q, hq⟩ : ∃ q, q = n - 1 - c := ⟨_, rfl⟩
          have e6 : IntKind.i64.wrap ((p : Int) - (c : Int)) = (q : Int) := by rw [IntWalk.i64_in _ (by omega)]; omega
          have e3 : IntKind.i64.wrap ((c : Int) + 1) = ((c + 1 : Nat) : Int) := by rw [IntWalk.i64_in _ (by omega)]; omega
          have hcN : c < N := by omega
          have hqN : q < N := by omega
          obtain ⟨t, ht⟩ : ∃ t, c = a + t := ⟨c - a, by omega⟩
          obtain ⟨u, hu⟩ : ∃ u, n - 1 - c = m + u := ⟨n - 1 - c - m, by omega⟩
          have htA : t < A.length := by omega
          have huB : u < B.length := by omega
          obtain ⟨x, hx⟩ : ∃ y, y = A[t] := ⟨_, rfl⟩
          obtain ⟨y, hy⟩ : ∃ y, y = B[u] := ⟨_, rfl⟩
          have hx6 := hR.out.at_ (i := c) (e := x) (by rw [hx, List.append_assoc (P ++ A)]; exact at_in (by omega) htA)
          have hy6 := hR.out.at_ (i := q) (e := y) (by rw [hy]; exact at_in (by simp; omega) huB)
          obtain ⟨z, hz⟩ : ∃ z, z = cmpS y.1 x.1 := ⟨_, rfl⟩
          have HC := hide fun w => lab_run y x w
          rw [← hz] at HC
          unfold mcV mcs at HC
          have HSC := hide fun W (h : Below wr.heap.size wr W) => And.intro (hide (hR.out.below h)) (hide (grown_below hG.out h (Nat.le_refl _)))
          obtain ⟨y0, y1, y2, y3, y4, y5⟩ := hy6
          obtain ⟨x0, x1, x2, x3, x4, x5⟩ := hx6
          by_cases hyx : ltB y.1 x.1 = true
          · have g2 : decide ((z : Int) < 0) = true := by rw [hz, cmpS_lt hyx]; rfl
            have HI := hide (show ∃ lo hi, (md < m ∧ lo = n - b ∧ hi = md ∨ m ≤ md ∧ lo = a ∧ hi = m) ∧ lo ≤ s ∧ s ≤ c ∧ c ≤ hi ∧ Cut A B a m n s c lo hi from
              ⟨lo, hi, hc, hlo, by omega, by omega, hcut.high HSA.out HSB.out ht hu htA huB (by rw [← hx, ← hy]; exact hyx)⟩)
            have hsc : s ≤ c := by omega
            have hcr : c < r := by omega
            clear hI hz hG hR hy hx hc hlo hsr' hhi hcut fa fb fmd fn fp fP fA fB fS ff hac hc' hq ht hu htA huB hyx
            go_wp2_with fail
            refine wp_region_still_tail 11 (by kernel_rfl) (by kernel_rfl) ?_
            simp only [List.take_succ_cons, List.take_zero, List.drop_succ_cons, List.drop_zero]
            repeat (first
              | still_step
              | (with_reducible refine wpStill_want ?_ (fun K hK => ?_); kernel_rfl; go_simp; refine hK _ ?_; clear hK K))
            refine wpStill_nil ?_
            go_wp2_with fail
            refine (HC.out _).mono ?_; rintro e w3 ⟨rfl, hB3⟩
            obtain ⟨HS3, HG3⟩ := HSC.out _ ((Below.refl _ _).drew.trans hB3)
            clear HSC HC hB3 y0 y1 y2 y3 y4 y5 x0 x1 x2 x3 x4 x5
            go_wp2_with fail
            go_roundw
            case rel => exact ⟨s, c, rfl, rfl, hsc, HS3, HG3, HI⟩
            case measure => simp [intOf]; omega
          · have hyx : ltB y.1 x.1 = false := by simpa using hyx
            have g2 : decide ((z : Int) < 0) = false := by rw [hz]; have := cmpS_ge hyx; simp; omega
            have HI := hide (show ∃ lo hi, (md < m ∧ lo = n - b ∧ hi = md ∨ m ≤ md ∧ lo = a ∧ hi = m) ∧ lo ≤ c + 1 ∧ c + 1 ≤ r ∧ r ≤ hi ∧ Cut A B a m n (c + 1) r lo hi from
              ⟨lo, hi, hc, by omega, by omega, hhi, hcut.low HSA.out HSB.out ht hu hac.2.2.2.2 htA huB (by rw [← hx, ← hy]; exact hyx)⟩)
            have hsc : s ≤ c := by omega
            have hcr : c + 1 ≤ r := by omega
            clear hI hz hG hR hy hx hc hlo hsr' hhi hcut fa fb fmd fn fp fP fA fB fS ff hac hc' hq ht hu htA huB hyx
            go_wp2_with fail
            refine wp_region_still_tail 11 (by kernel_rfl) (by kernel_rfl) ?_
            simp only [List.take_succ_cons, List.take_zero, List.drop_succ_cons, List.drop_zero]
            repeat (first
              | still_step
              | (with_reducible refine wpStill_want ?_ (fun K hK => ?_); kernel_rfl; go_simp; refine hK _ ?_; clear hK K))
            refine wpStill_nil ?_
            go_wp2_with fail
            refine (HC.out _).mono ?_; rintro e w3 ⟨rfl, hB3⟩
            obtain ⟨HS3, HG3⟩ := HSC.out _ ((Below.refl _ _).drew.trans hB3)
            clear HSC HC hB3 y0 y1 y2 y3 y4 y5 x0 x1 x2 x3 x4 x5
            go_wp2_with fail
            go_roundw
            case rel => exact ⟨c + 1, r, by go_num, rfl, hcr, HS3, HG3, HI⟩
            case measure => simp [intOf]; omega
        · obtain rfl : s = r := by omega
          obtain ⟨b1, b2, b3, b4, b5, b6, hlt12, hle12⟩ := hcut.fin HSA.out HSB.out (by omega) (by omega) fn fmd hlo hhi hc
          obtain ⟨e, he⟩ : ∃ e, e = n - s := ⟨_, rfl⟩
          rw [← he] at b3 b4 b6 hlt12 hle12
          have e1 : IntKind.i64.wrap ((n : Int) - (s : Int)) = (e : Int) := by rw [IntWalk.i64_in _ (by omega)]; omega
          obtain ⟨A1, hA1⟩ : ∃ l, l = A.take (s - a) := ⟨_, rfl⟩
          obtain ⟨A2, hA2⟩ : ∃ l, l = A.drop (s - a) := ⟨_, rfl⟩
          obtain ⟨B1, hB1⟩ : ∃ l, l = B.take (e - m) := ⟨_, rfl⟩
          obtain ⟨B2, hB2⟩ : ∃ l, l = B.drop (e - m) := ⟨_, rfl⟩
          have hAA : A1 ++ A2 = A := by rw [hA1, hA2, List.take_append_drop]
          have hBB : B1 ++ B2 = B := by rw [hB1, hB2, List.take_append_drop]
          rw [← hA1, ← hB2] at hle12
          rw [← hA2, ← hB1] at hlt12
          have l1 : A1.length = s - a := by rw [hA1, List.length_take]; omega
          have l2 : A2.length = m - s := by rw [hA2, List.length_drop]; omega
          have l3 : B1.length = e - m := by rw [hB1, List.length_take]; omega
          have l4 : B2.length = b - e := by rw [hB2, List.length_drop]; omega
          have lm : e - m = md - s := by omega
          have sA : Sr A1 ∧ Sr A2 := by have := HSA.out; rw [← hAA] at this; exact ⟨srt_left' this, (List.pairwise_append.1 this).2.1⟩
          have sB : Sr B1 ∧ Sr B2 := by have := HSB.out; rw [← hBB] at this; exact ⟨srt_left' this, (List.pairwise_append.1 this).2.1⟩
          have HJ := hide fun C1 C2 (h1 : Sorted_ C1 (A1 ++ B1)) (h2 : Sorted_ C2 (A2 ++ B2)) => sym_join (by rw [hAA]; exact HSA.out) (by rw [hBB]; exact HSB.out) h1 h2 hlt12 hle12
          rw [hAA, hBB] at HJ
          have hrow := hR.out
          rw [← hAA, ← hBB] at hrow
          have hN' : (P ++ A1 ++ A2 ++ B1 ++ B2 ++ S).length = N := by simp; omega
          have HROT := hide fun (h1 : s < m) (h2 : m < e) => rotate_run g cap N s m e (P ++ A1) A2 B1 (B2 ++ S) rest (.func (.func 60) #[] #[]) wr (by simpa using hrow) (by omega) (by omega) (by simp; omega) (by simp; omega) (by simp; omega) (by rw [← hN']; simp) hl
          have HNR := hide fun (h : ¬ (s < m ∧ m < e)) => show SRow wr g (P ++ A1 ++ B1 ++ A2 ++ B2 ++ S) rest by
            by_cases h1 : s < m
            · have : B1 = [] := List.eq_nil_of_length_eq_zero (by omega)
              subst this; simpa using hrow
            · have : A2 = [] := List.eq_nil_of_length_eq_zero (by omega)
              subst this; simpa using hrow
          have HR1 := hide fun (h1 : a < s) (h2 : s < md) W (h : SRow W g (P ++ A1 ++ B1 ++ A2 ++ B2 ++ S) rest) => IH.out P A1 B1 (A2 ++ B2 ++ S) a s md W (by omega) (by simpa using h) (by omega) (by omega) fP (by omega) (by omega) (by simp; omega) sA.1 sB.1
          have HN1 := hide fun (h : ¬ (a < s ∧ s < md)) => show Sorted_ (A1 ++ B1) (A1 ++ B1) by
            by_cases h1 : a < s
            · have : B1 = [] := List.eq_nil_of_length_eq_zero (by omega)
              subst this; rw [List.append_nil]; exact sorted_one sA.1
            · have : A1 = [] := List.eq_nil_of_length_eq_zero (by omega)
              subst this; exact sorted_one sB.1
          have HR2 := hide fun (h1 : md < e) (h2 : e < b) C1 (h3 : Sorted_ C1 (A1 ++ B1)) W (h : SRow W g (P ++ C1 ++ A2 ++ B2 ++ S) rest) => IH.out (P ++ C1) A2 B2 S md e b W (by omega) h (by omega) (by omega) (by have := h3.2.2; simp at this ⊢; omega) (by omega) (by omega) (by have := h3.2.2; simp at this ⊢; omega) sA.2 sB.2
          have HN2 := hide fun (h : ¬ (md < e ∧ e < b)) => show Sorted_ (A2 ++ B2) (A2 ++ B2) by
            by_cases h1 : md < e
            · have : B2 = [] := List.eq_nil_of_length_eq_zero (by omega)
              subst this; rw [List.append_nil]; exact sorted_one sA.2
            · have : A2 = [] := List.eq_nil_of_length_eq_zero (by omega)
              subst this; exact sorted_one sB.2
          clear hI hR hc hlo hsr' hhi hcut fa fb fmd fn fp fP fA fB fS ff he hA1 hA2 hB1 hB2 hAA hBB hlt12 hle12 l1 l2 l3 l4 lm sA sB hrow hN' IH
          go_upto_region 39 with fail
          obtain ⟨q1, hq1⟩ : ∃ q, q = decide (s < m ∧ m < e) := ⟨_, rfl⟩
          have HQ1 := Lib.hid hq1
          clear hq1
          go_cut [185] from 178 to 184 (fun v wc => v = .bool q1 ∧ wr = wc)
          case first =>
            clear HROT HNR HR1 HN1 HR2 HN2
            by_cases h1 : s < m
            · by_cases h2 : m < e
              · go_wp2_with fail
                go_meet
                case rel => exact ⟨by rw [HQ1.out, decide_eq_true ⟨h1, h2⟩], rfl⟩
              · go_wp2_with fail
                go_meet
                case rel => exact ⟨by rw [HQ1.out, decide_eq_false fun h => h2 h.2], rfl⟩
            · go_wp2_with fail
              go_meet
              case rel => exact ⟨by rw [HQ1.out, decide_eq_false fun h => h1 h.1], rfl⟩
          case rest =>
            obtain ⟨rfl, rfl⟩ := hcut
            go_upto_if 185 with fail
            go_cut [20] from 185 to 191 (fun sv wc => sv = .int .i64 s ∧ Hid (SRow wc g (P ++ A1 ++ B1 ++ A2 ++ B2 ++ S) rest) ∧ Hid (w.grownBy wc (some g)))
            case first =>
              cases q1 with
              | true =>
                have hq := HQ1.out
                have HC := hide (HROT.out (of_decide_eq_true hq.symm).1 (of_decide_eq_true hq.symm).2)
                clear HROT HNR HR1 HN1 HR2 HN2 hq
                go_wp2_with fail
                refine (HC.out).mono ?_; rintro e' w3 ⟨rfl, hS3, hG3⟩
                go_wp2_with fail
                go_meet
                case rel => exact ⟨rfl, hide (by simpa using hS3), hide (hG.out.trans hG3)⟩
              | false =>
                have hq := HQ1.out
                have HC := hide (HNR.out (of_decide_eq_false hq.symm))
                clear HROT HNR HR1 HN1 HR2 HN2 hq
                go_wp2_with fail
                go_meet
                case rel => exact ⟨rfl, HC, hG⟩
            case rest =>
              obtain ⟨rfl, HS4, HG4⟩ := hcut
              clear HROT HNR hG HQ1
              go_upto_region 41 with fail
              obtain ⟨q2, hq2⟩ : ∃ q, q = decide (a < s ∧ s < md) := ⟨_, rfl⟩
              have HQ2 := Lib.hid hq2
              clear hq2
              obtain ⟨wy, hwy⟩ : ∃ wy, wy = wc := ⟨_, rfl⟩
              rw [← hwy] at HS4 HG4 ⊢
              clear hwy
              go_cut [199] from 192 to 198 (fun v wc => v = .bool q2 ∧ wy = wc)
              case first =>
                clear HR1 HN1 HR2 HN2
                by_cases h1 : a < s
                · by_cases h2 : s < md
                  · go_wp2_with fail
                    go_meet
                    case rel => exact ⟨by rw [HQ2.out, decide_eq_true ⟨h1, h2⟩], rfl⟩
                  · go_wp2_with fail
                    go_meet
                    case rel => exact ⟨by rw [HQ2.out, decide_eq_false fun h => h2 h.2], rfl⟩
                · go_wp2_with fail
                  go_meet
                  case rel => exact ⟨by rw [HQ2.out, decide_eq_false fun h => h1 h.1], rfl⟩
              case rest =>
                obtain ⟨rfl, rfl⟩ := hcut
                go_upto_if 199 with fail
                go_cut [20] from 199 to 205 (fun sv wd => sv = .int .i64 s ∧ Hid (∃ C1, Sorted_ C1 (A1 ++ B1) ∧ SRow wd g (P ++ C1 ++ A2 ++ B2 ++ S) rest) ∧ Hid (w.grownBy wd (some g)))
                case first =>
                  cases q2 with
                  | true =>
                    have hq := HQ2.out
                    have HC := hide (HR1.out (of_decide_eq_true hq.symm).1 (of_decide_eq_true hq.symm).2 _ HS4.out)
                    clear HR1 HN1 HR2 HN2 hq
                    go_wp2_with fail
                    refine (HC.out).mono ?_; rintro e' w3 ⟨rfl, C1, hC1, hS3, hG3⟩
                    go_wp2_with fail
                    go_meet
                    case rel => exact ⟨rfl, hide ⟨C1, hC1, by simpa using hS3⟩, hide (HG4.out.trans hG3)⟩
                  | false =>
                    have hq := HQ2.out
                    have HC := hide (show ∃ C1, Sorted_ C1 (A1 ++ B1) ∧ SRow wy g (P ++ C1 ++ A2 ++ B2 ++ S) rest from ⟨_, HN1.out (of_decide_eq_false hq.symm), by simpa using HS4.out⟩)
                    clear HR1 HN1 HR2 HN2 hq
                    go_wp2_with fail
                    go_meet
                    case rel => exact ⟨rfl, HC, HG4⟩
                case rest =>
                  obtain ⟨rfl, HS5, HG5⟩ := hcut
                  clear HR1 HN1 HS4 HG4 HQ2
                  obtain ⟨C1, hC1, hS5⟩ := HS5.out
                  have HC1 := hide hC1
                  have HS6 := hide (show SRow _ g (P ++ (C1 ++ (A2 ++ B2)) ++ S) rest by simpa using hS5)
                  clear HS5 hC1
                  by_cases h1 : md < e
                  · by_cases h2 : e < b
                    · have HC := hide (HR2.out h1 h2 C1 HC1.out _ hS5)
                      clear HR2 HN2 hS5
                      go_wp2_with fail
                      refine (HC.out).mono ?_; rintro e' w3 ⟨rfl, C2, hC2, hS3, hG3⟩
                      go_wp2_with fail
                      go_end0
                      exact ⟨rfl, C1 ++ C2, HJ.out _ _ HC1.out hC2, by simpa using hS3, HG5.out.trans hG3⟩
                    · have HE := hide (HJ.out _ _ HC1.out (HN2.out fun h => h2 h.2))
                      clear HR2 HN2 hS5
                      go_wp2_with fail
                      go_end0
                      exact ⟨rfl, _, HE.out, HS6.out, HG5.out⟩
                  · have HE := hide (HJ.out _ _ HC1.out (HN2.out fun h => h1 h.1))
                    clear HR2 HN2 hS5
                    go_wp2_with fail
                    go_end0
                    exact ⟨rfl, _, HE.out, HS6.out, HG5.out⟩
end Go.Proofs.YtajpgmacabeeeaaDoor

/- Sorting members: stable and SortStableFunc, for at most 39 members. -/
namespace Go.Proofs.YtajpgmacabeeeaaDoor
open Go.RowKit

theorem insSort_nil (w : World) : Calls Tryd.prog 96 #[.slice none 0 0, .int .i64 0, .int .i64 0, .func (.func 60) #[] #[]] w fun e w' => e = .returned (.tuple #[]) ∧ w = w' := by
  go_enter Tryd.func96, Tryd.ntmps96
  go_wp2_with fail
  go_loopw [8, 9] (fun iv _ wr => iv = .int .i64 1 ∧ w = wr) (fun _ _ _ => 0)
  case atStart => exact ⟨rfl, rfl⟩
  case round =>
    obtain ⟨rfl, rfl⟩ := hrel
    go_wp2_with fail
    go_end0
    exact ⟨rfl, rfl⟩
set_option maxRecDepth 100000 in
theorem stable_nil (w : World) : Calls Tryd.prog 83 #[.slice none 0 0, .int .i64 0, .func (.func 60) #[] #[]] w fun e w' => e = .returned (.tuple #[]) ∧ w = w' := by
  go_enter Tryd.func83, Tryd.ntmps83
  go_wp2_with fail
  go_loopw [7, 8] (fun av bv wr => av = .int .i64 0 ∧ bv = .int .i64 20 ∧ w = wr) (fun _ _ _ => 0)
  case atStart => exact ⟨rfl, rfl, rfl⟩
  case round =>
    obtain ⟨rfl, rfl, rfl⟩ := hrel
    go_wp2_with fail
    refine (insSort_nil _).mono ?_; rintro e w1 ⟨rfl, rfl⟩
    go_wp2_with fail
    go_loopw [6, 7, 8, 9] (fun v _ _ _ wr => v = .int .i64 20 ∧ w = wr) (fun _ _ _ _ _ => 0)
    case atStart => exact ⟨rfl, rfl⟩
    case round =>
      obtain ⟨rfl, rfl⟩ := hrel
      go_wp2_with fail
      go_end0
      exact ⟨rfl, rfl⟩

theorem sorted_halves {A B C1 C2 C : List Mc} (h1 : Sorted_ C1 A) (h2 : Sorted_ C2 B) (h : Sorted_ C (C1 ++ C2)) : Sorted_ C (A ++ B) :=
  ⟨h.1, h.2.1.trans (h1.2.1.append h2.2.1), by have := h.2.2; have := h1.2.2; have := h2.2.2; simp at *; omega⟩

set_option maxRecDepth 100000 in
set_option maxHeartbeats 4000000 in
theorem stable_run (g cap N : Nat) (L : List Mc) (rest : List Value) (w : World) (h : SRow w g L rest) (hN : L.length = N) (hl : N ≤ 39) :
    Calls Tryd.prog 83 #[.slice (some ⟨g, 0, none⟩) N cap, .int .i64 N, .func (.func 60) #[] #[]] w fun e w' => e = .returned (.tuple #[]) ∧ ∃ C, Sorted_ C L ∧ SRow w' g C rest ∧ w.grownBy w' (some g) := by
  have HS := hide h
  by_cases hb : N < 20
  · have HC := hide (insSort_run g cap N 0 N [] L [] rest w (by simpa using h) rfl (by simp [hN]) (by simp [hN]) (by omega))
    clear h
    have g1 : decide ((20 : Int) ≤ (N : Int)) = false := by simp; omega
    have g2 : decide ((20 : Int) < (N : Int)) = false := by simp; omega
    go_enter Tryd.func83, Tryd.ntmps83
    go_wp2_with fail
    go_loopw [7, 8] (fun av bv wr => av = .int .i64 0 ∧ bv = .int .i64 20 ∧ w = wr) (fun _ _ _ => 0)
    case atStart => exact ⟨rfl, rfl, rfl⟩
    case round =>
      obtain ⟨rfl, rfl, rfl⟩ := hrel
      go_wp2_with fail
      refine HC.out.mono ?_; rintro e w1 ⟨rfl, C, hC, hS, hG⟩
      have HE := hide (show ∃ C, Sorted_ C L ∧ SRow w1 g C rest ∧ w.grownBy w1 (some g) from ⟨C, hC, by simpa using hS, hG⟩)
      clear hC hS hG HC
      go_wp2_with fail
      go_loopw [6, 7, 8, 9] (fun v _ _ _ wr => v = .int .i64 20 ∧ w1 = wr) (fun _ _ _ _ _ => 0)
      case atStart => exact ⟨rfl, rfl⟩
      case round =>
        obtain ⟨rfl, rfl⟩ := hrel
        go_wp2_with fail
        go_end0
        exact ⟨rfl, HE.out⟩
  · obtain ⟨A, hA⟩ : ∃ A, A = L.take 20 := ⟨_, rfl⟩
    obtain ⟨B, hB⟩ : ∃ A, A = L.drop 20 := ⟨_, rfl⟩
    have hAB : A ++ B = L := by rw [hA, hB, List.take_append_drop]
    have lA : A.length = 20 := by rw [hA, List.length_take]; omega
    have lB : 20 + B.length = N := by rw [hB, List.length_drop]; omega
    have HC := hide (insSort_run g cap N 0 20 [] A B rest w (by rw [← hAB] at h; simpa using h) rfl (by simp [lA]) (by simp; omega) (by omega))
    have g1 : decide ((20 : Int) ≤ (N : Int)) = true := by simp; omega
    have g2 : decide ((40 : Int) ≤ (N : Int)) = false := by simp; omega
    have g3 : decide ((40 : Int) < (N : Int)) = false := by simp; omega
    have HC2 := hide fun C1 (h1 : Sorted_ C1 A) W (hW : SRow W g (C1 ++ B) rest) => insSort_run g cap N 20 N C1 B [] rest W (by simpa using hW) (by rw [h1.2.2, lA]) (by rw [h1.2.2, lA]; omega) (by have := h1.2.2; simp; omega) (by omega)
    have HC3 := hide fun (h : 20 < N) C1 (h1 : Sorted_ C1 A) C2 (h2 : Sorted_ C2 B) W (hW : SRow W g (C1 ++ C2) rest) => symMerge_run g cap N rest (by omega) N [] C1 C2 [] 0 20 N W (by have := h1.2.2; have := h2.2.2; omega) (by simpa using hW) (by have := h1.2.2; omega) (by have := h2.2.2; omega) rfl (by have := h1.2.2; omega) (by have := h2.2.2; omega) (by have := h1.2.2; have := h2.2.2; simp; omega) h1.1 h2.1
    have HJ := hide fun C1 (h1 : Sorted_ C1 A) C2 (h2 : Sorted_ C2 B) C (h : Sorted_ C (C1 ++ C2)) => sorted_halves h1 h2 h
    rw [hAB] at HJ
    have HB := hide (show N ≤ 20 → B = [] from fun h => List.eq_nil_of_length_eq_zero (by omega))
    clear h hA hB hAB lA lB HS hN
    go_enter Tryd.func83, Tryd.ntmps83
    go_wp2_with fail
    go_loopw [7, 8] (fun av bv wr => (av = .int .i64 0 ∧ bv = .int .i64 20 ∧ w = wr) ∨ (av = .int .i64 20 ∧ bv = .int .i64 40 ∧ Hid (∃ C1, Sorted_ C1 A ∧ SRow wr g (C1 ++ B) rest ∧ w.grownBy wr (some g)))) (fun av _ _ => 20 - (intOf av).toNat)
    case atStart => exact .inl ⟨rfl, rfl, rfl⟩
    case round =>
      rcases hrel with ⟨rfl, rfl, rfl⟩ | ⟨rfl, rfl, hR⟩
      · go_wp2_with fail
        refine HC.out.mono ?_; rintro e w1 ⟨rfl, C, hC, hS, hG⟩
        have HE := hide (show ∃ C, Sorted_ C A ∧ SRow w1 g (C ++ B) rest ∧ w.grownBy w1 (some g) from ⟨C, hC, by simpa using hS, hG⟩)
        clear hC hS hG HC HC2 HC3
        go_wp2_with fail
        go_roundw
        case rel => exact .inr ⟨rfl, rfl, HE⟩
        case measure => simp [intOf]
      · clear HC
        obtain ⟨C1, h1, hS, hG⟩ := hR.out
        have HC := hide (HC2.out C1 h1 _ hS)
        have H1 := hide h1
        have HG := hide hG
        clear hR HC2 h1 hS hG
        go_wp2_with fail
        refine HC.out.mono ?_; rintro e w1 ⟨rfl, C2, hC, hS, hG⟩
        have HE := hide (show Sorted_ C2 B ∧ SRow w1 g (C1 ++ C2) rest ∧ w.grownBy w1 (some g) from ⟨hC, by simpa using hS, HG.out.trans hG⟩)
        clear hC hS hG HC HG
        by_cases h20 : N ≤ 20
        · have g4 : decide ((20 : Int) < (N : Int)) = false := by simp; omega
          have hE := HE.out
          have hb := HB.out h20
          have HE2 := hide (show ∃ C, Sorted_ C L ∧ SRow w1 g C rest ∧ w.grownBy w1 (some g) from ⟨C1, HJ.out C1 H1.out C2 hE.1 C1 (by
            have : C2 = [] := List.eq_nil_of_length_eq_zero (by rw [hE.1.2.2, hb]; rfl)
            subst this; rw [List.append_nil]; exact sorted_one H1.out.1), by
            have : C2 = [] := List.eq_nil_of_length_eq_zero (by rw [hE.1.2.2, hb]; rfl)
            subst this; simpa using hE.2.1, hE.2.2⟩)
          clear hE hb HE HJ H1 HC3
          go_wp2_with fail
          go_loopw [6, 7, 8, 9] (fun v _ _ _ wr => v = .int .i64 20 ∧ w1 = wr) (fun _ _ _ _ _ => 0)
          case atStart => exact ⟨rfl, rfl⟩
          case round =>
            obtain ⟨rfl, rfl⟩ := hrel
            go_wp2_with fail
            go_end0
            exact ⟨rfl, HE2.out⟩
        · have g4 : decide ((20 : Int) < (N : Int)) = true := by simp; omega
          have HC := hide (HC3.out (by omega) C1 H1.out C2 HE.out.1 w1 HE.out.2.1)
          clear HC3
          go_wp2_with fail
          go_loopw [6, 7, 8, 9] (fun v _ _ _ wr => (v = .int .i64 20 ∧ w1 = wr) ∨ (v = .int .i64 40 ∧ Hid (∃ C, Sorted_ C L ∧ SRow wr g C rest ∧ w.grownBy wr (some g)))) (fun v _ _ _ _ => 40 - (intOf v).toNat)
          case atStart => exact .inl ⟨rfl, rfl⟩
          case round =>
            rcases hrel with ⟨rfl, rfl⟩ | ⟨rfl, hR⟩
            · go_wp2_with fail
              go_loopw [7, 8] (fun v u wr => v = .int .i64 0 ∧ u = .int .i64 40 ∧ w1 = wr) (fun _ _ _ => 0)
              case atStart => exact ⟨rfl, rfl, rfl⟩
              case round =>
                obtain ⟨rfl, rfl, rfl⟩ := hrel
                go_wp2_with fail
                refine HC.out.mono ?_; rintro e w2 ⟨rfl, C, hC, hS, hG⟩
                have HE2 := hide (show ∃ C, Sorted_ C L ∧ SRow w2 g C rest ∧ w.grownBy w2 (some g) from ⟨C, HJ.out C1 H1.out C2 HE.out.1 C hC, by simpa using hS, HE.out.2.2.trans hG⟩)
                clear hC hS hG HC HE HJ H1
                go_wp2_with fail
                go_roundw
                case rel => exact .inr ⟨rfl, HE2⟩
                case measure => simp [intOf]
            · clear HC HE HJ H1
              go_wp2_with fail
              go_end0
              exact ⟨rfl, hR.out⟩

theorem sortStable_nil (w : World) : Calls Tryd.prog 59 #[.slice none 0 0, .func (.func 60) #[] #[]] w fun e w' => e = .returned (.tuple #[]) ∧ w = w' := by
  go_enter Tryd.func59, Tryd.ntmps59
  go_wp2_with fail
  refine (stable_nil _).mono ?_; rintro e w1 ⟨rfl, rfl⟩
  go_wp2_with fail
  go_end0
  exact ⟨rfl, rfl⟩
theorem sortStable_run (g cap N : Nat) (L : List Mc) (rest : List Value) (w : World) (h : SRow w g L rest) (hN : L.length = N) (hl : N ≤ 39) :
    Calls Tryd.prog 59 #[.slice (some ⟨g, 0, none⟩) N cap, .func (.func 60) #[] #[]] w fun e w' => e = .returned (.tuple #[]) ∧ ∃ C, Sorted_ C L ∧ SRow w' g C rest ∧ w.grownBy w' (some g) := by
  have HC := hide (stable_run g cap N L rest w h hN hl)
  clear h hN
  go_enter Tryd.func59, Tryd.ntmps59
  go_wp2_with fail
  refine HC.out.mono ?_; rintro e w1 ⟨rfl, hE⟩
  have HE := hide hE
  clear hE
  go_wp2_with fail
  go_end0
  exact ⟨rfl, HE.out⟩
end Go.Proofs.YtajpgmacabeeeaaDoor
