/- The laws that compare with the reference: the walks. -/
import Derived.Test.YtiebfnchimfjiaaAwake
namespace Go.Proofs.Ytiebfnchimfjiaa
open Go.RowKit Go.Deep

theorem rr_iff {g : List (List Int)} {m : Nat → Nat → Bool} (hW : G.War g g.length 0 0 m) {fr : List Int} {b : Nat} (hb : b < g.length) : G.Rch g fr b ↔ rr m g.length fr b = true := by
  unfold rr G.Rch G.Rs
  rw [List.any_eq_true]
  constructor
  · rintro ⟨a, ha, hl, hr⟩
    refine ⟨a, ha, ?_⟩
    rw [Bool.and_eq_true, Bool.or_eq_true]
    refine ⟨by simp; omega, ?_⟩
    rw [Int.toNat_natCast]
    rcases hr with rfl | hr
    · left; simp
    · right; exact (hW.fin a b hl hb).2 hr
  · rintro ⟨x, hx, h⟩
    rw [Bool.and_eq_true, Bool.or_eq_true] at h
    obtain ⟨h1, h2⟩ := h
    have h1' : 0 ≤ x ∧ x < g.length := by simpa using h1
    obtain ⟨a, rfl⟩ := ofNat_of h1'.1
    rw [Int.toNat_natCast] at h2
    have hl : a < g.length := by omega
    refine ⟨a, hx, hl, ?_⟩
    rcases h2 with h2 | h2
    · left; have : b = a := by simpa using h2
      exact this.symm
    · right; exact (hW.fin a b hl hb).1 h2

def Yes (w : World) (e : Ending) (w' : World) : Prop := e = .returned (.bool true) ∧ Below w.heap.size w w'
theorem small_len {g : List (List Int)} (h : smallS g = true) : g.length ≤ 12 := by
  unfold smallS at h; rw [Bool.and_eq_true] at h; simpa using h.1
theorem bools_same (u v : Value) (xs : List Bool) (w : World) (B : Nat) (hx : Bools w B u xs) (hy : Bools w B v xs) :
    Calls Try.prog 14 #[u, v] w fun e w' => e = .returned (.bool true) ∧ Below w.heap.size w w' :=
  (bools_any u v xs xs w B hx hy).mono fun e w' h => ⟨by have := h.1; simpa using this, h.below _⟩
theorem Lists_same (u v : Value) (xs : List (List Int)) (w : World) (B : Nat) (hx : Rows2 w B u xs) (hy : Rows2 w B v xs) :
    Calls Try.prog 17 #[u, v] w fun e w' => e = .returned (.bool true) ∧ Below w.heap.size w w' :=
  (Lists_any u v xs xs w B hx hy).mono fun e w' h => ⟨by have := h.1; simpa using this, h.below _⟩

set_option maxHeartbeats 1000000 in
theorem Reverses_any (u : Value) (g : List (List Int)) (w : World) (hg : Rows2 w w.heap.size u g) :
    Calls Try.prog 4 #[u] w (Yes w) := by
  have con := Small_any u g w w.heap.size hg
  cases hs : smallS g with
  | false =>
    rw [hs] at con
    have CON := hide con
    clear con hs
    go_enter Try.func4, Try.ntmps4
    go_wp2_with (first
      | (go_at_call 12; refine (unhide CON).mono ?_; rintro e w' ⟨rfl, rfl⟩)
      | (go_at_call 13; refine (awake_any _).mono ?_; rintro e w' ⟨rfl, hb⟩))
    go_ret
    exact ⟨rfl, hb⟩
  | true =>
    rw [hs] at con
    have CON := hide con
    have HS := Lib.hid hs; have HG := Lib.hid hg
    clear con hs hg
    go_enter Try.func4, Try.ntmps4
    go_wp2_with (first
      | (go_at_call 12; refine (unhide CON).mono ?_; rintro e w' ⟨rfl, rfl⟩))
    refine (Reverse_any u g w HG.out (by have := small_len HS.out; omega)).mono ?_
    rintro e w1 ⟨p, rfl, hb1, hp1⟩
    have hr1 := True.intro
    have HB1 := Lib.hid hb1; have HP1 := Lib.hid hp1; have HR1 := Lib.hid hr1
    clear hb1 hp1 hr1 CON
    go_wp2_with fail
    refine (RefReverse_any u g w1 ((HG.out.same (Same.of_below HB1.out)).more HB1.out.size) (by have := small_len HS.out; omega)).mono ?_
    rintro e w2 ⟨q, rfl, hb2, hp2⟩
    have hr2 := True.intro
    have HB2 : Hid (Below w.heap.size w w2) := HB1.out.trans (hb2.mono HB1.out.size)
    have hq1 : Rows2 w2 w2.heap.size p (G.rev g) := (HP1.out.same (Same.of_below hb2)).more hb2.size

    have HQ1 := Lib.hid hq1; have HP2 := Lib.hid hp2
    clear hb2 hp2 hr2 hq1
    go_wp2_with fail
    refine (Lists_same p q _ w2 w2.heap.size HQ1.out HP2.out).mono ?_
    rintro e w3 ⟨rfl, hb3⟩
    have HB3 : Hid (Below w.heap.size w w3) := HB2.out.trans (hb3.mono HB2.out.size)
    clear hb3
    go_wp2_with (first
      | (go_at_call 13; refine (awake_any _).mono ?_; rintro e w' ⟨rfl, hb⟩))
    go_ret
    exact ⟨rfl, HB3.out.trans (hb.mono HB3.out.size)⟩

set_option maxHeartbeats 1000000 in
theorem Distances_any (u : Value) (fr : Int) (g : List (List Int)) (w : World) (hg : Rows2 w w.heap.size u g) :
    Calls Try.prog 5 #[u, .int .i64 fr] w (Yes w) := by
  have con := Small_any u g w w.heap.size hg
  cases hs : smallS g with
  | false =>
    rw [hs] at con
    have CON := hide con
    clear con hs
    go_enter Try.func5, Try.ntmps5
    go_wp2_with (first
      | (go_at_call 12; refine (unhide CON).mono ?_; rintro e w' ⟨rfl, rfl⟩)
      | (go_at_call 13; refine (awake_any _).mono ?_; rintro e w' ⟨rfl, hb⟩))
    go_ret
    exact ⟨rfl, hb⟩
  | true =>
    rw [hs] at con
    have CON := hide con
    have HS := Lib.hid hs; have HG := Lib.hid hg
    clear con hs hg
    go_enter Try.func5, Try.ntmps5
    go_wp2_with (first
      | (go_at_call 12; refine (unhide CON).mono ?_; rintro e w' ⟨rfl, rfl⟩))
    refine (Dist_any u g fr w HG.out (by have := small_len HS.out; omega)).mono ?_
    rintro e w1 ⟨p, o, rfl, hb1, hp1, hr1⟩
    have HB1 := Lib.hid hb1; have HP1 := Lib.hid hp1; have HR1 := Lib.hid hr1
    clear hb1 hp1 hr1 CON
    go_wp2_with fail
    refine (RefDist_any u g fr w1 ((HG.out.same (Same.of_below HB1.out)).more HB1.out.size) (by have := small_len HS.out; omega)).mono ?_
    rintro e w2 ⟨q, o2, rfl, hb2, hp2, hr2⟩
    have HB2 : Hid (Below w.heap.size w w2) := HB1.out.trans (hb2.mono HB1.out.size)
    have hq1 : Ints w2 w2.heap.size p ((List.range g.length).map o) := (HP1.out.same (Same.of_below hb2)).more hb2.size
    have e : (List.range g.length).map o = (List.range g.length).map o2 := List.map_congr_left fun b hb => HR1.out.eq hr2 b (List.mem_range.1 hb)
    rw [e] at hq1
    have HQ1 := Lib.hid hq1; have HP2 := Lib.hid hp2
    clear hb2 hp2 hr2 hq1
    go_wp2_with fail
    refine (Ints_same p q _ w2 w2.heap.size HQ1.out HP2.out).mono ?_
    rintro e w3 ⟨rfl, hb3⟩
    have HB3 : Hid (Below w.heap.size w w3) := HB2.out.trans (hb3.mono HB2.out.size)
    clear hb3
    go_wp2_with (first
      | (go_at_call 13; refine (awake_any _).mono ?_; rintro e w' ⟨rfl, hb⟩))
    go_ret
    exact ⟨rfl, HB3.out.trans (hb.mono HB3.out.size)⟩

set_option maxHeartbeats 1000000 in
theorem Components_any (u : Value) (g : List (List Int)) (w : World) (hg : Rows2 w w.heap.size u g) :
    Calls Try.prog 6 #[u] w (Yes w) := by
  have con := Small_any u g w w.heap.size hg
  cases hs : smallS g with
  | false =>
    rw [hs] at con
    have CON := hide con
    clear con hs
    go_enter Try.func6, Try.ntmps6
    go_wp2_with (first
      | (go_at_call 12; refine (unhide CON).mono ?_; rintro e w' ⟨rfl, rfl⟩)
      | (go_at_call 13; refine (awake_any _).mono ?_; rintro e w' ⟨rfl, hb⟩))
    go_ret
    exact ⟨rfl, hb⟩
  | true =>
    rw [hs] at con
    have CON := hide con
    have HS := Lib.hid hs; have HG := Lib.hid hg
    clear con hs hg
    go_enter Try.func6, Try.ntmps6
    go_wp2_with (first
      | (go_at_call 12; refine (unhide CON).mono ?_; rintro e w' ⟨rfl, rfl⟩))
    refine (Comp_any u g w HG.out (by have := small_len HS.out; omega)).mono ?_
    rintro e w1 ⟨p, o, rfl, hb1, hp1, hr1⟩
    have HB1 := Lib.hid hb1; have HP1 := Lib.hid hp1; have HR1 := Lib.hid hr1
    clear hb1 hp1 hr1 CON
    go_wp2_with fail
    refine (RefComp_any u g w1 ((HG.out.same (Same.of_below HB1.out)).more HB1.out.size) (by have := small_len HS.out; omega)).mono ?_
    rintro e w2 ⟨q, o2, rfl, hb2, hp2, hr2⟩
    have HB2 : Hid (Below w.heap.size w w2) := HB1.out.trans (hb2.mono HB1.out.size)
    have hq1 : Ints w2 w2.heap.size p ((List.range g.length).map o) := (HP1.out.same (Same.of_below hb2)).more hb2.size
    have e : (List.range g.length).map o = (List.range g.length).map o2 := List.map_congr_left fun b hb => (HR1.out b (List.mem_range.1 hb)).eq (hr2 b (List.mem_range.1 hb))
    rw [e] at hq1
    have HQ1 := Lib.hid hq1; have HP2 := Lib.hid hp2
    clear hb2 hp2 hr2 hq1
    go_wp2_with fail
    refine (Ints_same p q _ w2 w2.heap.size HQ1.out HP2.out).mono ?_
    rintro e w3 ⟨rfl, hb3⟩
    have HB3 : Hid (Below w.heap.size w w3) := HB2.out.trans (hb3.mono HB2.out.size)
    clear hb3
    go_wp2_with (first
      | (go_at_call 13; refine (awake_any _).mono ?_; rintro e w' ⟨rfl, hb⟩))
    go_ret
    exact ⟨rfl, HB3.out.trans (hb.mono HB3.out.size)⟩

set_option maxHeartbeats 1000000 in
theorem Cycles_any (u : Value) (g : List (List Int)) (w : World) (hg : Rows2 w w.heap.size u g) :
    Calls Try.prog 8 #[u] w (Yes w) := by
  have con := Small_any u g w w.heap.size hg
  cases hs : smallS g with
  | false =>
    rw [hs] at con
    have CON := hide con
    clear con hs
    go_enter Try.func8, Try.ntmps8
    go_wp2_with (first
      | (go_at_call 12; refine (unhide CON).mono ?_; rintro e w' ⟨rfl, rfl⟩)
      | (go_at_call 13; refine (awake_any _).mono ?_; rintro e w' ⟨rfl, hb⟩))
    go_ret
    exact ⟨rfl, hb⟩
  | true =>
    rw [hs] at con
    have CON := hide con
    have HS := Lib.hid hs; have HG := Lib.hid hg
    clear con hs hg
    go_enter Try.func8, Try.ntmps8
    go_wp2_with (first
      | (go_at_call 12; refine (unhide CON).mono ?_; rintro e w' ⟨rfl, rfl⟩))
    refine (Cycle_any u g w HG.out (by have := small_len HS.out; omega)).mono ?_
    rintro e w1 ⟨p, c, rfl, hb1, hp1, hr1⟩
    have HB1 := Lib.hid hb1; have HP1 := Lib.hid hp1; have HR1 := Lib.hid hr1
    clear hb1 hp1 hr1 CON
    go_wp2_with fail
    refine (RefCycle_any u g w1 ((HG.out.same (Same.of_below HB1.out)).more HB1.out.size) (by have := small_len HS.out; omega)).mono ?_
    rintro e w2 ⟨q, c2, rfl, hb2, hp2, hr2⟩
    have HB2 : Hid (Below w.heap.size w w2) := HB1.out.trans (hb2.mono HB1.out.size)
    have hq1 : Ints w2 w2.heap.size p c := (HP1.out.same (Same.of_below hb2)).more hb2.size
    have e : c = c2 := HR1.out.eq hr2
    rw [e] at hq1
    have HQ1 := Lib.hid hq1; have HP2 := Lib.hid hp2
    clear hb2 hp2 hr2 hq1
    go_wp2_with fail
    refine (Ints_same p q _ w2 w2.heap.size HQ1.out HP2.out).mono ?_
    rintro e w3 ⟨rfl, hb3⟩
    have HB3 : Hid (Below w.heap.size w w3) := HB2.out.trans (hb3.mono HB2.out.size)
    clear hb3
    go_wp2_with (first
      | (go_at_call 13; refine (awake_any _).mono ?_; rintro e w' ⟨rfl, hb⟩))
    go_ret
    exact ⟨rfl, HB3.out.trans (hb.mono HB3.out.size)⟩

set_option maxHeartbeats 1000000 in
theorem Sorts_any (u : Value) (g : List (List Int)) (w : World) (hg : Rows2 w w.heap.size u g) :
    Calls Try.prog 7 #[u] w (Yes w) := by
  have con := Small_any u g w w.heap.size hg
  cases hs : smallS g with
  | false =>
    rw [hs] at con
    have CON := hide con
    clear con hs
    go_enter Try.func7, Try.ntmps7
    go_wp2_with (first
      | (go_at_call 12; refine (unhide CON).mono ?_; rintro e w' ⟨rfl, rfl⟩)
      | (go_at_call 13; refine (awake_any _).mono ?_; rintro e w' ⟨rfl, hb⟩))
    go_ret
    exact ⟨rfl, hb⟩
  | true =>
    rw [hs] at con
    have CON := hide con
    have HS := Lib.hid hs; have HG := Lib.hid hg
    clear con hs hg
    go_enter Try.func7, Try.ntmps7
    go_wp2_with (first
      | (go_at_call 12; refine (unhide CON).mono ?_; rintro e w' ⟨rfl, rfl⟩))
    refine (Topo_any u g w HG.out (by have := small_len HS.out; omega)).mono ?_
    rintro e w1 ⟨p, rfl, hb1, hp1⟩
    have hr1 := True.intro
    have HB1 := Lib.hid hb1; have HP1 := Lib.hid hp1; have HR1 := Lib.hid hr1
    clear hb1 hp1 hr1 CON
    go_wp2_with fail
    refine (RefTopo_any u g w1 ((HG.out.same (Same.of_below HB1.out)).more HB1.out.size) (by have := small_len HS.out; omega)).mono ?_
    rintro e w2 ⟨q, rfl, hb2, hp2⟩
    have hr2 := True.intro
    have HB2 : Hid (Below w.heap.size w w2) := HB1.out.trans (hb2.mono HB1.out.size)
    have hq1 : Ints w2 w2.heap.size p (G.ints ((G.topo g).getD [])) := (HP1.out.same (Same.of_below hb2)).more hb2.size

    have HQ1 := Lib.hid hq1; have HP2 := Lib.hid hp2
    clear hb2 hp2 hr2 hq1
    go_wp2_with fail
    refine (Ints_same p q _ w2 w2.heap.size HQ1.out HP2.out).mono ?_
    rintro e w3 ⟨rfl, hb3⟩
    have HB3 : Hid (Below w.heap.size w w3) := HB2.out.trans (hb3.mono HB2.out.size)
    clear hb3
    go_wp2_with (first
      | (go_at_call 13; refine (awake_any _).mono ?_; rintro e w' ⟨rfl, hb⟩))
    go_ret
    exact ⟨rfl, HB3.out.trans (hb.mono HB3.out.size)⟩

set_option maxHeartbeats 1000000 in
theorem Reaches_any (u v : Value) (g : List (List Int)) (fr : List Int) (w : World) (hg : Rows2 w w.heap.size u g) (hf : Ints w w.heap.size v fr) :
    Calls Try.prog 3 #[u, v] w (Yes w) := by
  have con := Small_any u g w w.heap.size hg
  obtain ⟨X, d, rfl, hd1, hd2, hels⟩ := hf.parts
  have hmx := maxLen_le hd2
  cases hs : smallS g with
  | false =>
    rw [hs] at con
    have CON := hide con
    clear con hs hels
    go_enter Try.func3, Try.ntmps3
    go_wp2_with (first
      | (go_at_call 12; refine (unhide CON).mono ?_; rintro e w' ⟨rfl, rfl⟩)
      | (go_at_call 13; refine (awake_any _).mono ?_; rintro e w' ⟨rfl, hb⟩))
    go_ret
    exact ⟨rfl, hb⟩
  | true =>
    rw [hs] at con
    have CON := hide con
    have HS := Lib.hid hs; have HG := Lib.hid hg; have HF := Lib.hid hf
    clear con hs hg hf hels
    by_cases h14 : 14 < fr.length
    · go_enter Try.func3, Try.ntmps3
      go_wp2_with (first
        | (go_at_call 12; refine (unhide CON).mono ?_; rintro e w' ⟨rfl, rfl⟩)
        | (go_at_call 13; refine (awake_any _).mono ?_; rintro e w' ⟨rfl, hb⟩))
      go_ret
      exact ⟨rfl, hb⟩
    · go_enter Try.func3, Try.ntmps3
      go_wp2_with (first
        | (go_at_call 12; refine (unhide CON).mono ?_; rintro e w' ⟨rfl, rfl⟩))
      refine (Reach_any u _ g fr w HG.out HF.out (by have := small_len HS.out; omega)).mono ?_
      rintro e w1 ⟨p, o, rfl, hb1, hp1, hr1⟩
      have HB1 := Lib.hid hb1; have HP1 := Lib.hid hp1; have HR1 := Lib.hid hr1
      clear hb1 hp1 hr1 CON
      go_wp2_with fail
      refine (RefReach_any u _ g fr w1 ((HG.out.same (Same.of_below HB1.out)).more HB1.out.size) ((HF.out.same (Same.of_below HB1.out)).more HB1.out.size) (by have := small_len HS.out; omega)).mono ?_
      rintro e w2 ⟨q, o2, rfl, hb2, hp2, m, hW, hr2⟩
      have HB2 : Hid (Below w.heap.size w w2) := HB1.out.trans (hb2.mono HB1.out.size)
      have hq1 : Bools w2 w2.heap.size p ((List.range g.length).map o) := (HP1.out.same (Same.of_below hb2)).more hb2.size
      have e : (List.range g.length).map o = (List.range g.length).map o2 := List.map_congr_left fun b hb => by
        have hb' := List.mem_range.1 hb
        rw [Bool.eq_iff_iff, HR1.out b hb', hr2 b hb', rr_iff hW hb']
      rw [e] at hq1
      have HQ1 := Lib.hid hq1; have HP2 := Lib.hid hp2
      clear hb2 hp2 hr2 hq1 hW
      go_wp2_with fail
      refine (bools_same p q _ w2 w2.heap.size HQ1.out HP2.out).mono ?_
      rintro e w3 ⟨rfl, hb3⟩
      have HB3 : Hid (Below w.heap.size w w3) := HB2.out.trans (hb3.mono HB2.out.size)
      clear hb3
      go_wp2_with (first
        | (go_at_call 13; refine (awake_any _).mono ?_; rintro e w' ⟨rfl, hb⟩))
      go_ret
      exact ⟨rfl, HB3.out.trans (hb.mono HB3.out.size)⟩
end Go.Proofs.Ytiebfnchimfjiaa
