/- DigraphBackward: the walk. -/
import Derived.Test.YtiebfnchimfjiaaLaws2
namespace Go.Proofs.Ytiebfnchimfjiaa
open Go.RowKit Go.Deep

theorem dist_back {g : List (List Int)} {a b : Nat} {o o' : Nat → Int} (ha : a < g.length) (hb : b < g.length) (h : DistOf g a o) (h' : DistOf (G.rev g) b o') : o b = o' a := by
  rcases h b hb with ⟨s, e, hs, h1⟩ | ⟨h1, _⟩
  · obtain rfl : a = s := by omega
    rcases h' a (by rw [G.rev_len]; exact ha) with ⟨t, e', ht, h2⟩ | ⟨h2, _⟩
    · obtain rfl : b = t := by omega
      exact (G.IsD_rev ha hb h1).eq h2
    · rw [G.rev_len] at h2; omega
  · omega

set_option maxHeartbeats 2000000 in
theorem Backward_any (u : Value) (a1 a2 : Int) (g : List (List Int)) (w : World) (hg : Rows2 w w.heap.size u g) : Calls Try.prog 11 #[u, .int .i64 a1, .int .i64 a2] w (Yes w) := by
  have con := Small_any u g w w.heap.size hg
  obtain ⟨A, c, rfl, hc1, hc2, _⟩ := hg.parts
  have hm1 := maxLen_le hc2
  obtain ⟨n, hn⟩ : ∃ n, g.length = n := ⟨_, rfl⟩
  have HN := Lib.hid hn
  rw [hn] at con hc1 hg ⊢
  have HG := Lib.hid hg
  clear hg hc2 hn
  cases hs : smallS g with
  | false =>
    rw [hs] at con
    have CON := hide con
    clear con hs
    go_enter Try.func11, Try.ntmps11
    go_wp2_with (first
      | (go_at_call 12; refine (unhide CON).mono ?_; rintro e w' ⟨rfl, rfl⟩)
      | (go_at_call 13; refine (awake_any _).mono ?_; rintro e w' ⟨rfl, hb⟩))
    go_ret
    exact ⟨rfl, hb⟩
  | true =>
    rw [hs] at con
    have CON := hide con
    have HS := Lib.hid hs
    clear con hs
    by_cases q1 : a1 < 0
    · have d1 : decide (a1 < 0) = true := by simp; omega
      clear q1
      go_enter Try.func11, Try.ntmps11
      go_wp2_with (first
        | (go_at_call 12; refine (unhide CON).mono ?_; rintro e w' ⟨rfl, rfl⟩)
        | (go_at_call 13; refine (awake_any _).mono ?_; rintro e w' ⟨rfl, hb⟩))
      go_ret
      exact ⟨rfl, hb⟩
    · have d1 : decide (a1 < 0) = false := by simp; omega
      by_cases q2 : a2 < 0
      · have d2 : decide (a2 < 0) = true := by simp; omega
        clear q1 q2
        go_enter Try.func11, Try.ntmps11
        go_wp2_with (first
          | (go_at_call 12; refine (unhide CON).mono ?_; rintro e w' ⟨rfl, rfl⟩)
          | (go_at_call 13; refine (awake_any _).mono ?_; rintro e w' ⟨rfl, hb⟩))
        go_ret
        exact ⟨rfl, hb⟩
      · have d2 : decide (a2 < 0) = false := by simp; omega
        by_cases q3 : a1 < n
        · have d3 : decide ((n : Int) ≤ a1) = false := by simp; omega
          by_cases q4 : a2 < n
          · have d4 : decide ((n : Int) ≤ a2) = false := by simp; omega
            obtain ⟨a, rfl⟩ := ofNat_of (a := a1) (by omega)
            obtain ⟨b, rfl⟩ := ofNat_of (a := a2) (by omega)
            have ha : a < n := by omega
            have hb : b < n := by omega
            clear q1 q2 q3 q4
            go_enter Try.func11, Try.ntmps11
            go_wp2_with (first
              | (go_at_call 12; refine (unhide CON).mono ?_; rintro e w' ⟨rfl, rfl⟩))
            refine (Reverse_any _ g w HG.out (by have := small_len HS.out; omega)).mono ?_
            rintro e w1 ⟨p1, rfl, hb1, hp1⟩
            have HB1 := Lib.hid hb1; have HP1 := Lib.hid hp1
            clear hb1 hp1 CON
            go_wp2_with fail
            refine (Reverse_any _ _ w1 HP1.out (by rw [G.rev_len]; have := small_len HS.out; omega)).mono ?_
            rintro e w2 ⟨p2, rfl, hb2, hp2⟩
            have HB2 := Lib.hid hb2; have HP2 := Lib.hid hp2
            clear hb2 hp2
            go_wp2_with fail
            refine (Reverse_any _ _ w2 HP2.out (by rw [G.rev_len, G.rev_len]; have := small_len HS.out; omega)).mono ?_
            rintro e w3 ⟨p3, rfl, hb3, hp3⟩
            rw [G.rev3] at hp3
            have hB3 : Below w1.heap.size w1 w3 := HB2.out.trans (hb3.mono HB2.out.size)
            have HB3 := Lib.hid hB3; have HP3 := Lib.hid hp3
            clear hb3 hp3 hB3
            go_wp2_with fail
            refine (Lists_same p3 p1 _ w3 w3.heap.size HP3.out ((HP1.out.same (Same.of_below HB3.out)).more HB3.out.size)).mono ?_
            rintro e w4 ⟨rfl, hb4⟩
            have hB4 : Below w1.heap.size w1 w4 := HB3.out.trans (hb4.mono HB3.out.size)
            have hC4 : Below w.heap.size w w4 := HB1.out.trans (hB4.mono HB1.out.size)
            have HB4 := Lib.hid hB4; have HC4 := Lib.hid hC4
            clear hb4 hB4 hC4
            go_wp2_with fail
            refine (Dist_any _ g a w4 ((HG.out.same (Same.of_below HC4.out)).more HC4.out.size) (by have := small_len HS.out; omega)).mono ?_
            rintro e w5 ⟨s1, o1, rfl, hb5, hs1, ho1⟩
            have hB5 : Below w1.heap.size w1 w5 := HB4.out.trans (hb5.mono HB4.out.size)
            have hC5 : Below w.heap.size w w5 := HC4.out.trans (hb5.mono HC4.out.size)
            have HB5 := Lib.hid hB5; have HC5 := Lib.hid hC5; have HS1 := Lib.hid hs1; have HO1 := Lib.hid ho1
            clear hb5 hB5 hC5 hs1 ho1
            go_wp2_with fail
            refine (Dist_any p1 _ b w5 ((HP1.out.same (Same.of_below HB5.out)).more HB5.out.size) (by rw [G.rev_len]; have := small_len HS.out; omega)).mono ?_
            rintro e w6 ⟨s2, o2, rfl, hb6, hs2, ho2⟩
            have hC6 : Below w.heap.size w w6 := HC5.out.trans (hb6.mono HC5.out.size)
            have HC6 := Lib.hid hC6
            have heq : o1 b = o2 a := dist_back (by have := HN.out; omega) (by have := HN.out; omega) HO1.out ho2
            have hs1 : Ints w6 w6.heap.size s1 ((List.range g.length).map o1) := (HS1.out.same (Same.of_below hb6)).more hb6.size
            obtain ⟨S1, e1, rfl, _, he1, hels1⟩ := hs1.parts
            obtain ⟨S2, e2, rfl, _, he2, hels2⟩ := hs2.parts
            have hme1 := maxLen_le he1
            have hme2 := maxLen_le he2
            obtain ⟨x1, rfl, _, hx1⟩ := hels1 b (o1 b) (by rw [List.getElem?_map, List.getElem?_range (by have := HN.out; omega)]; rfl)
            obtain ⟨x2, rfl, _, hx2⟩ := hels2 a (o2 a) (by rw [List.getElem?_map, List.getElem?_range (by rw [G.rev_len]; have := HN.out; omega)]; rfl)
            simp only [List.length_map, List.length_range, G.rev_len] at *
            rw [HN.out] at *
            rw [← heq] at hx2
            obtain ⟨z, hz⟩ : ∃ z, z = o1 b := ⟨_, rfl⟩
            rw [← hz] at hx1 hx2
            clear hb6 hC6 heq hs1 hs2 ho2 hels1 hels2 he1 he2 hz
            go_wp2_with fail
            refine wp_region_still_tail 24 (by kernel_rfl) (by kernel_rfl) ?_
            simp only [List.take_succ_cons, List.take_zero, List.drop_succ_cons, List.drop_zero]
            repeat still_step
            repeat (first
              | still_step
              | (with_reducible refine wpStill_want ?_ (fun K hK => ?_); kernel_rfl; go_simp; refine hK _ ?_; clear hK K))
            refine wpStill_nil ?_
            go_wp2_with (first
              | (go_at_call 13; refine (awake_any _).mono ?_; rintro e w' ⟨rfl, hb⟩))
            go_ret
            exact ⟨rfl, (below_drewN HC6.out 1).trans (hb.mono HC6.out.size)⟩
          · have d4 : decide ((n : Int) ≤ a2) = true := by simp; omega
            clear q1 q2 q3 q4
            go_enter Try.func11, Try.ntmps11
            go_wp2_with (first
              | (go_at_call 12; refine (unhide CON).mono ?_; rintro e w' ⟨rfl, rfl⟩)
              | (go_at_call 13; refine (awake_any _).mono ?_; rintro e w' ⟨rfl, hb⟩))
            go_ret
            exact ⟨rfl, hb⟩
        · have d3 : decide ((n : Int) ≤ a1) = true := by simp; omega
          clear q1 q2 q3
          go_enter Try.func11, Try.ntmps11
          go_wp2_with (first
            | (go_at_call 12; refine (unhide CON).mono ?_; rintro e w' ⟨rfl, rfl⟩)
            | (go_at_call 13; refine (awake_any _).mono ?_; rintro e w' ⟨rfl, hb⟩))
          go_ret
          exact ⟨rfl, hb⟩
end Go.Proofs.Ytiebfnchimfjiaa
