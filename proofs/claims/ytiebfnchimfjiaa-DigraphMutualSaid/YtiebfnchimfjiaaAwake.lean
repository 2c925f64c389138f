/- awake: the chapter's examples. -/
import Derived.Test.YtiebfnchimfjiaaCycle
import Derived.Test.YtiebfnchimfjiaaTopo
import Derived.Test.YtiebfnchimfjiaaRefComp
namespace Go.Proofs.Ytiebfnchimfjiaa
open Go.RowKit Go.Deep

theorem lits (w : World) (a : List Int) (a' : List Value) (ha : a' = a.map (.int .i64)) (n : Nat) (hn : a.length = n) (hm : n ≤ 100) :
    Ints (w.alloc (.cells a'.toArray 3)) (w.alloc (.cells a'.toArray 3)).heap.size (.slice (some ⟨w.heap.size, 0, none⟩) n n) a ∧ Below w.heap.size w (w.alloc (.cells a'.toArray 3)) := by
  subst ha; subst hn
  have := Sl.of_row (Row.new w 3 (a.map (.int .i64))) (B := (w.alloc (.cells (a.map (.int .i64)).toArray 3)).heap.size) (by simp) (by simp [maxLen]; omega)
  refine ⟨?_, (Below.refl _ _).alloc (Nat.le_refl _) _⟩
  unfold Ints
  simpa using this

theorem lit3 (w : World) (a b c : List Int) (a' b' c' : List Value) (ha : a' = a.map (.int .i64)) (hb : b' = b.map (.int .i64)) (hc : c' = c.map (.int .i64))
    (n1 n2 n3 : Nat) (h1 : a.length = n1) (h2 : b.length = n2) (h3 : c.length = n3) (k1 : n1 ≤ 100) (k2 : n2 ≤ 100) (k3 : n3 ≤ 100) (W : World)
    (hW : W = (((w.alloc (.cells a'.toArray 3)).alloc (.cells b'.toArray 3)).alloc (.cells c'.toArray 3)).alloc
      (.cells #[.slice (some ⟨w.heap.size, 0, none⟩) n1 n1, .slice (some ⟨w.heap.size + 1, 0, none⟩) n2 n2, .slice (some ⟨w.heap.size + 1 + 1, 0, none⟩) n3 n3] 23)) :
    Rows2 W W.heap.size (.slice (some ⟨w.heap.size + 1 + 1 + 1, 0, none⟩) 3 3) [a, b, c] ∧ Below w.heap.size w W := by
  have hbel : Below w.heap.size w W := by
    rw [hW]; exact ((((Below.refl _ _).alloc (Nat.le_refl _) _).alloc (by simp) _).alloc (by simp; omega) _).alloc (by simp; omega) _
  refine ⟨?_, hbel⟩
  subst ha; subst hb; subst hc; subst h1; subst h2; subst h3
  have hsz : W.heap.size = w.heap.size + 4 := by rw [hW]; simp only [World.size_alloc]
  have r0 : Row W w.heap.size 3 (a.map (.int .i64)) := by rw [hW]; exact (((Row.new w 3 _).alloc _).alloc _).alloc _
  have r1 : Row W (w.heap.size + 1) 3 (b.map (.int .i64)) := by
    rw [hW]
    have := ((Row.new (w.alloc (.cells (a.map (.int .i64)).toArray 3)) 3 (b.map (.int .i64))).alloc (.cells (c.map (.int .i64)).toArray 3)).alloc
      (.cells #[.slice (some ⟨w.heap.size, 0, none⟩) a.length a.length, .slice (some ⟨w.heap.size + 1, 0, none⟩) b.length b.length, .slice (some ⟨w.heap.size + 1 + 1, 0, none⟩) c.length c.length] 23)
    simpa only [World.size_alloc] using this
  have r2 : Row W (w.heap.size + 1 + 1) 3 (c.map (.int .i64)) := by
    rw [hW]
    have := (Row.new ((w.alloc (.cells (a.map (.int .i64)).toArray 3)).alloc (.cells (b.map (.int .i64)).toArray 3)) 3 (c.map (.int .i64))).alloc
      (.cells #[.slice (some ⟨w.heap.size, 0, none⟩) a.length a.length, .slice (some ⟨w.heap.size + 1, 0, none⟩) b.length b.length, .slice (some ⟨w.heap.size + 1 + 1, 0, none⟩) c.length c.length] 23)
    simpa only [World.size_alloc] using this
  have r3 : Row W (w.heap.size + 1 + 1 + 1) 23 [.slice (some ⟨w.heap.size, 0, none⟩) a.length a.length, .slice (some ⟨w.heap.size + 1, 0, none⟩) b.length b.length, .slice (some ⟨w.heap.size + 1 + 1, 0, none⟩) c.length c.length] := by
    rw [hW]
    have := Row.new (((w.alloc (.cells (a.map (.int .i64)).toArray 3)).alloc (.cells (b.map (.int .i64)).toArray 3)).alloc (.cells (c.map (.int .i64)).toArray 3)) 23
      [.slice (some ⟨w.heap.size, 0, none⟩) a.length a.length, .slice (some ⟨w.heap.size + 1, 0, none⟩) b.length b.length, .slice (some ⟨w.heap.size + 1 + 1, 0, none⟩) c.length c.length]
    simpa only [World.size_alloc] using this
  have i0 : Ints W W.heap.size (.slice (some ⟨w.heap.size, 0, none⟩) a.length a.length) a := by
    have := Sl.of_row r0 (B := W.heap.size) r0.lt (by simp [maxLen]; omega); unfold Ints; simpa using this
  have i1 : Ints W W.heap.size (.slice (some ⟨w.heap.size + 1, 0, none⟩) b.length b.length) b := by
    have := Sl.of_row r1 (B := W.heap.size) r1.lt (by simp [maxLen]; omega); unfold Ints; simpa using this
  have i2 : Ints W W.heap.size (.slice (some ⟨w.heap.size + 1 + 1, 0, none⟩) c.length c.length) c := by
    have := Sl.of_row r2 (B := W.heap.size) r2.lt (by simp [maxLen]; omega); unfold Ints; simpa using this
  refine ⟨_, Sl.of_row r3 r3.lt (by simp [maxLen]), rfl, fun i u x hu hx => ?_⟩
  match i, hu, hx with
  | 0, hu, hx => simp at hu hx; subst hu; subst hx; exact i0
  | 1, hu, hx => simp at hu hx; subst hu; subst hx; exact i1
  | 2, hu, hx => simp at hu hx; subst hu; subst hx; exact i2
  | k + 3, hu, hx => simp at hx

theorem lit11 (w : World) (W : World) (hW : W = (w.alloc (.cells #[.int .i64 0] 3)).alloc (.cells #[.slice (some ⟨w.heap.size, 0, none⟩) 1 1] 23)) :
    Rows2 W W.heap.size (.slice (some ⟨w.heap.size + 1, 0, none⟩) 1 1) [[0]] ∧ Below w.heap.size w W := by
  have hbel : Below w.heap.size w W := by rw [hW]; exact ((Below.refl _ _).alloc (Nat.le_refl _) _).alloc (by simp) _
  refine ⟨?_, hbel⟩
  have r0 : Row W w.heap.size 3 [.int .i64 0] := by rw [hW]; exact (Row.new w 3 _).alloc _
  have r3 : Row W (w.heap.size + 1) 23 [.slice (some ⟨w.heap.size, 0, none⟩) 1 1] := by
    rw [hW]
    have := Row.new (w.alloc (.cells #[.int .i64 0] 3)) 23 [.slice (some ⟨w.heap.size, 0, none⟩) 1 1]
    simpa only [World.size_alloc] using this
  have i0 : Ints W W.heap.size (.slice (some ⟨w.heap.size, 0, none⟩) 1 1) [0] := by
    have := Sl.of_row r0 (B := W.heap.size) r0.lt (by simp [maxLen]); exact this
  refine ⟨_, Sl.of_row r3 r3.lt (by simp [maxLen]), rfl, fun i u x hu hx => ?_⟩
  match i, hu, hx with
  | 0, hu, hx => simp at hu hx; subst hu; subst hx; exact i0
  | k + 1, hu, hx => simp at hx

/-! The values. -/
theorem topo_a : G.topo [[1], [], [1]] = some [0, 2, 1] := by decide
theorem topo_b : G.topo [[0]] = none := by decide
theorem min3 {g : List (List Int)} {s k b : Nat} (h : G.wl g s k b = true) (h' : (List.range k).all (fun j => !(G.wl g s j b)) = true) : G.Min g s k b := by
  refine ⟨h, fun j hj => ?_⟩
  rw [List.all_eq_true] at h'
  simpa using h' j (List.mem_range.2 hj)
theorem dist_a {o : Nat → Int} (h : DistOf [[1], [2], [0]] 1 o) : (List.range 3).map o = [2, 0, 1] := by
  have e : ∀ b k : Nat, b < 3 → G.Min [[1], [2], [0]] 1 k b → o b = k := by
    intro b k hb hm
    rcases h b hb with ⟨s, hs, _, h1⟩ | ⟨h1, _⟩
    · obtain rfl : s = 1 := by omega
      exact h1.eq (.inr ⟨k, rfl, hm⟩)
    · simp at h1
  have e0 := e 0 2 (by omega) (min3 (by decide) (by decide))
  have e1 := e 1 0 (by omega) (min3 (by decide) (by decide))
  have e2 := e 2 1 (by omega) (min3 (by decide) (by decide))
  simp [List.range_succ, e0, e1, e2]
theorem cyc_a {c : List Int} (h : G.IsCyc [[1], [2], [0]] c) : c = [0, 1, 2] := by
  have d0 : G.dv [[1], [2], [0]] 0 0 = 0 := G.dv_self 0
  have d1 : G.dv [[1], [2], [0]] 0 1 = 2 := (G.dv_eq (.inr ⟨2, rfl, min3 (by decide) (by decide)⟩)).symm
  have d2 : G.dv [[1], [2], [0]] 0 2 = 1 := (G.dv_eq (.inr ⟨1, rfl, min3 (by decide) (by decide)⟩)).symm
  have hp : G.Pk [[1], [2], [0]] 3 0 0 := (G.on_cycle (g := [[1], [2], [0]]) (v := 0) (by decide)).2 ⟨1, by decide, by decide, by rw [d1]; decide⟩
  refine h.eq (.inr ⟨0, 2, [1, 2], by decide, hp, fun u hu => absurd hu (by omega), ?_, ?_, rfl⟩)
  · refine .inr ⟨by omega, ⟨1, ⟨by decide, by decide⟩, d1⟩, fun w hw _ => ?_⟩
    have : w = 1 := by
      have h1 := hw.1; have h2 := hw.2
      match w, h1, h2 with
      | 0, _, h2 => exact absurd h2 (by decide)
      | 1, _, _ => rfl
      | 2, _, h2 => exact absurd h2 (by decide)
      | k + 3, h1, _ => have h3 : k + 3 < 3 := h1; omega
    subst this; rw [d1]; decide
  · refine .cons ?_ (.cons ?_ (.nil _))
    · refine .inr ⟨1, rfl, ⟨by decide, by decide, d1⟩, fun y hy => ?_⟩
      match y, hy with
      | 0, hy => exact absurd hy.2.1 (by decide)
      | k + 1, _ => omega
    · refine .inr ⟨2, rfl, ⟨by decide, by decide, d2⟩, fun y hy => ?_⟩
      match y, hy with
      | 0, hy => exact absurd hy.2.1 (by decide)
      | 1, hy => exact absurd hy.2.1 (by decide)
      | k + 2, _ => omega
theorem comp_a {o : Nat → Int} (h : ∀ b, b < 3 → G.IsC [[], [2], [1]] b (o b)) : (List.range 3).map o = [0, 1, 1] := by
  have no : ∀ a b, a < 3 → b < 3 → (∀ k, G.wl [[], [2], [1]] a k b = false) → ¬ G.Rs [[], [2], [1]] a b := by
    intro a b ha _ hw hr
    obtain ⟨k, hk⟩ := G.wl_of_Rs (g := [[], [2], [1]]) ha hr
    rw [hw k] at hk; cases hk
  have w0 : ∀ k b, b ≠ 0 → G.wl [[], [2], [1]] 0 k b = false := by
    intro k
    induction k with
    | zero => intro b hb; simp [G.wl, hb]
    | succ k ih =>
      intro b hb
      cases e : G.wl [[], [2], [1]] 0 (k + 1) b with
      | false => rfl
      | true =>
        obtain ⟨a, ha, h1, h2⟩ := G.wl_succ.1 e
        by_cases e0 : a = 0
        · subst e0; simp [G.ed, G.row] at h2
        · rw [ih a e0] at h1; cases h1
  have e0 : o 0 = 0 := by
    obtain ⟨u, h1, _, h3, h4⟩ := h 0 (by omega)
    have : u = 0 := by
      rcases Nat.eq_zero_or_pos u with e | e
      · exact e
      · exact absurd (G.Mut.refl 0) (h4 0 e)
    rw [h1, this]; rfl
  have hm : G.Mut [[], [2], [1]] 1 2 := ⟨G.Rs.edge (by decide), G.Rs.edge (by decide)⟩
  have key : ∀ b, (b = 1 ∨ b = 2) → o b = 1 := by
    intro b hb
    have hb3 : b < 3 := by omega
    have hmb : G.Mut [[], [2], [1]] 1 b := by rcases hb with rfl | rfl; exact G.Mut.refl 1; exact hm
    refine (h b hb3).eq ⟨1, rfl, by decide, hmb, fun u hu hmu => ?_⟩
    obtain rfl : u = 0 := by omega
    exact no 0 b (by omega) hb3 (fun k => w0 k b (by omega)) hmu.1
  have e1 := key 1 (.inl rfl)
  have e2 := key 2 (.inr rfl)
  simp [List.range_succ, e0, e1, e2]

theorem Ints_same (u v : Value) (xs : List Int) (w : World) (B : Nat) (hx : Ints w B u xs) (hy : Ints w B v xs) :
    Calls Try.prog 20 #[u, v] w fun e w' => e = .returned (.bool true) ∧ Below w.heap.size w w' :=
  (Ints_any u v xs xs w B hx hy).mono fun e w' h => ⟨by have := h.1; simpa using this, h.below _⟩

set_option maxRecDepth 100000 in
set_option maxHeartbeats 4000000 in
theorem awake_any (w : World) : Calls Try.prog 13 #[] w fun e w' => e = .returned (.bool true) ∧ Below w.heap.size w w' := by
  go_enter Try.func13, Try.ntmps13
  go_wp2_with fail
  obtain ⟨W1, hW1⟩ : ∃ W, W = (((w.alloc (.cells #[.int .i64 1] 3)).alloc (.cells #[] 3)).alloc (.cells #[.int .i64 1] 3)).alloc
      (.cells #[.slice (some ⟨w.heap.size, 0, none⟩) 1 1, .slice (some ⟨w.heap.size + 1, 0, none⟩) 0 0, .slice (some ⟨w.heap.size + 1 + 1, 0, none⟩) 1 1] 23) := ⟨_, rfl⟩
  obtain ⟨hr1, hb1⟩ := lit3 w [1] [] [1] [.int .i64 1] [] [.int .i64 1] rfl rfl rfl 1 0 1 rfl rfl rfl (by omega) (by omega) (by omega) W1 hW1
  rw [← hW1]
  clear hW1
  refine (Topo_any _ _ _ hr1 (by simp)).mono ?_
  rintro e w1 ⟨p1, rfl, hb1', hp1⟩
  rw [topo_a] at hp1 ⊢
  have HB1 : Hid (Below w.heap.size w w1) := hb1.trans (hb1'.mono hb1.size)
  have HP1 : Hid (Ints w1 w1.heap.size p1 [0, 2, 1]) := hp1
  clear hr1 hb1 hb1' hp1
  simp only [Option.isSome_some]
  go_wp2_with fail
  obtain ⟨W2, hW2⟩ : ∃ W, W = (w1.alloc (.cells #[.int .i64 0] 3)).alloc (.cells #[.slice (some ⟨w1.heap.size, 0, none⟩) 1 1] 23) := ⟨_, rfl⟩
  obtain ⟨hr2, hb2⟩ := lit11 w1 W2 hW2
  rw [← hW2]
  clear hW2
  refine (Topo_any _ _ _ hr2 (by simp)).mono ?_
  rintro e w2 ⟨p2, rfl, hb2', hp2⟩
  rw [topo_b] at hp2 ⊢
  have hb12 : Below w1.heap.size w1 w2 := hb2.trans (hb2'.mono hb2.size)
  have HB2 : Hid (Below w.heap.size w w2) := HB1.out.trans (hb12.mono HB1.out.size)
  have HP12 : Hid (Ints w2 w2.heap.size p1 [0, 2, 1]) := (HP1.out.same (Same.of_below hb12)).more hb12.size
  obtain ⟨A2, c2, rfl, _, hc2, _⟩ := hp2.parts
  have hmc2 := maxLen_le hc2
  clear hr2 hb2 hb2' hp2 hb12 HP1 HB1 hc2
  simp only [Option.isSome_none, G.ints, Option.getD_none, List.map_nil, List.length_nil]
  go_wp2_with fail
  obtain ⟨W3, hW3⟩ : ∃ W, W = (((w2.alloc (.cells #[.int .i64 1] 3)).alloc (.cells #[.int .i64 2] 3)).alloc (.cells #[.int .i64 0] 3)).alloc
      (.cells #[.slice (some ⟨w2.heap.size, 0, none⟩) 1 1, .slice (some ⟨w2.heap.size + 1, 0, none⟩) 1 1, .slice (some ⟨w2.heap.size + 1 + 1, 0, none⟩) 1 1] 23) := ⟨_, rfl⟩
  obtain ⟨hr3, hb3⟩ := lit3 w2 [1] [2] [0] [.int .i64 1] [.int .i64 2] [.int .i64 0] rfl rfl rfl 1 1 1 rfl rfl rfl (by omega) (by omega) (by omega) W3 hW3
  rw [← hW3]
  clear hW3
  refine (Cycle_any _ _ _ hr3 (by simp)).mono ?_
  rintro e w3 ⟨p3, cy, rfl, hb3', hp3, hcy⟩
  have hcy' := cyc_a hcy
  subst hcy'
  have hb23 : Below w2.heap.size w2 w3 := hb3.trans (hb3'.mono hb3.size)
  have HB3 : Hid (Below w.heap.size w w3) := HB2.out.trans (hb23.mono HB2.out.size)
  have HP13 : Hid (Ints w3 w3.heap.size p1 [0, 2, 1]) := (HP12.out.same (Same.of_below hb23)).more hb23.size
  have HP3 := Lib.hid hp3
  clear hr3 hb3 hb3' hp3 hb23 HP12 HB2 hcy
  go_wp2_with fail
  obtain ⟨W4, hW4⟩ : ∃ W, W = w3.alloc (.cells #[.int .i64 0, .int .i64 1, .int .i64 2] 3) := ⟨_, rfl⟩
  have hl4 := lits w3 [0, 1, 2] [.int .i64 0, .int .i64 1, .int .i64 2] rfl 3 rfl (by omega)
  rw [← hW4]
  obtain ⟨hi4, hb4⟩ := (show Ints W4 W4.heap.size (.slice (some ⟨w3.heap.size, 0, none⟩) 3 3) [0, 1, 2] ∧ Below w3.heap.size w3 W4 by rw [hW4]; exact hl4)
  clear hW4 hl4
  refine (Ints_same p3 _ [0, 1, 2] W4 W4.heap.size ((HP3.out.same (Same.of_below hb4)).more hb4.size) hi4).mono ?_
  rintro e w4 ⟨rfl, hb4'⟩
  have hb34 : Below w3.heap.size w3 w4 := hb4.trans (hb4'.mono hb4.size)
  have HB4 : Hid (Below w.heap.size w w4) := HB3.out.trans (hb34.mono HB3.out.size)
  have HP14 : Hid (Ints w4 w4.heap.size p1 [0, 2, 1]) := (HP13.out.same (Same.of_below hb34)).more hb34.size
  clear hi4 hb4 hb4' hb34 HP13 HB3 HP3
  go_wp2_with fail
  obtain ⟨W5, hW5⟩ : ∃ W, W = w4.alloc (.cells #[.int .i64 0, .int .i64 2, .int .i64 1] 3) := ⟨_, rfl⟩
  have hl5 := lits w4 [0, 2, 1] [.int .i64 0, .int .i64 2, .int .i64 1] rfl 3 rfl (by omega)
  rw [← hW5]
  obtain ⟨hi5, hb5⟩ := (show Ints W5 W5.heap.size (.slice (some ⟨w4.heap.size, 0, none⟩) 3 3) [0, 2, 1] ∧ Below w4.heap.size w4 W5 by rw [hW5]; exact hl5)
  clear hW5 hl5
  refine (Ints_same p1 _ [0, 2, 1] W5 W5.heap.size ((HP14.out.same (Same.of_below hb5)).more hb5.size) hi5).mono ?_
  rintro e w5 ⟨rfl, hb5'⟩
  have HB5 : Hid (Below w.heap.size w w5) := HB4.out.trans ((hb5.trans (hb5'.mono hb5.size)).mono HB4.out.size)
  clear hi5 hb5 hb5' HB4 HP14
  go_wp2_with fail
  obtain ⟨W6, hW6⟩ : ∃ W, W = (((w5.alloc (.cells #[.int .i64 1] 3)).alloc (.cells #[.int .i64 2] 3)).alloc (.cells #[.int .i64 0] 3)).alloc
      (.cells #[.slice (some ⟨w5.heap.size, 0, none⟩) 1 1, .slice (some ⟨w5.heap.size + 1, 0, none⟩) 1 1, .slice (some ⟨w5.heap.size + 1 + 1, 0, none⟩) 1 1] 23) := ⟨_, rfl⟩
  obtain ⟨hr6, hb6⟩ := lit3 w5 [1] [2] [0] [.int .i64 1] [.int .i64 2] [.int .i64 0] rfl rfl rfl 1 1 1 rfl rfl rfl (by omega) (by omega) (by omega) W6 hW6
  rw [← hW6]
  clear hW6
  refine (Dist_any _ _ 1 _ hr6 (by simp)).mono ?_
  rintro e w6 ⟨p6, o6, rfl, hb6', hp6, hd6⟩
  have he6 := dist_a hd6
  have hp6' : Ints w6 w6.heap.size p6 [2, 0, 1] := by rw [← he6]; exact hp6
  have HB6 : Hid (Below w.heap.size w w6) := HB5.out.trans ((hb6.trans (hb6'.mono hb6.size)).mono HB5.out.size)
  have HP6 := Lib.hid hp6'
  clear hr6 hb6 hb6' hp6 hp6' hd6 HB5 he6
  go_wp2_with fail
  obtain ⟨W7, hW7⟩ : ∃ W, W = w6.alloc (.cells #[.int .i64 2, .int .i64 0, .int .i64 1] 3) := ⟨_, rfl⟩
  have hl7 := lits w6 [2, 0, 1] [.int .i64 2, .int .i64 0, .int .i64 1] rfl 3 rfl (by omega)
  rw [← hW7]
  obtain ⟨hi7, hb7⟩ := (show Ints W7 W7.heap.size (.slice (some ⟨w6.heap.size, 0, none⟩) 3 3) [2, 0, 1] ∧ Below w6.heap.size w6 W7 by rw [hW7]; exact hl7)
  clear hW7 hl7
  refine (Ints_same p6 _ [2, 0, 1] W7 W7.heap.size ((HP6.out.same (Same.of_below hb7)).more hb7.size) hi7).mono ?_
  rintro e w7 ⟨rfl, hb7'⟩
  have HB7 : Hid (Below w.heap.size w w7) := HB6.out.trans ((hb7.trans (hb7'.mono hb7.size)).mono HB6.out.size)
  clear hi7 hb7 hb7' HB6 HP6
  go_wp2_with fail
  obtain ⟨W8, hW8⟩ : ∃ W, W = (((w7.alloc (.cells #[] 3)).alloc (.cells #[.int .i64 2] 3)).alloc (.cells #[.int .i64 1] 3)).alloc
      (.cells #[.slice (some ⟨w7.heap.size, 0, none⟩) 0 0, .slice (some ⟨w7.heap.size + 1, 0, none⟩) 1 1, .slice (some ⟨w7.heap.size + 1 + 1, 0, none⟩) 1 1] 23) := ⟨_, rfl⟩
  obtain ⟨hr8, hb8⟩ := lit3 w7 [] [2] [1] [] [.int .i64 2] [.int .i64 1] rfl rfl rfl 0 1 1 rfl rfl rfl (by omega) (by omega) (by omega) W8 hW8
  rw [← hW8]
  clear hW8
  refine (Comp_any _ _ _ hr8 (by simp)).mono ?_
  rintro e w8 ⟨p8, o8, rfl, hb8', hp8, hd8⟩
  have he8 := comp_a hd8
  have hp8' : Ints w8 w8.heap.size p8 [0, 1, 1] := by rw [← he8]; exact hp8
  have HB8 : Hid (Below w.heap.size w w8) := HB7.out.trans ((hb8.trans (hb8'.mono hb8.size)).mono HB7.out.size)
  have HP8 := Lib.hid hp8'
  clear hr8 hb8 hb8' hp8 hp8' hd8 HB7 he8
  go_wp2_with fail
  obtain ⟨W9, hW9⟩ : ∃ W, W = w8.alloc (.cells #[.int .i64 0, .int .i64 1, .int .i64 1] 3) := ⟨_, rfl⟩
  have hl9 := lits w8 [0, 1, 1] [.int .i64 0, .int .i64 1, .int .i64 1] rfl 3 rfl (by omega)
  rw [← hW9]
  obtain ⟨hi9, hb9⟩ := (show Ints W9 W9.heap.size (.slice (some ⟨w8.heap.size, 0, none⟩) 3 3) [0, 1, 1] ∧ Below w8.heap.size w8 W9 by rw [hW9]; exact hl9)
  clear hW9 hl9
  refine (Ints_same p8 _ [0, 1, 1] W9 W9.heap.size ((HP8.out.same (Same.of_below hb9)).more hb9.size) hi9).mono ?_
  rintro e w9 ⟨rfl, hb9'⟩
  have HB9 : Hid (Below w.heap.size w w9) := HB8.out.trans ((hb9.trans (hb9'.mono hb9.size)).mono HB8.out.size)
  clear hi9 hb9 hb9' HB8 HP8
  go_wp2_with fail
  go_ret
  exact ⟨rfl, HB9.out⟩
end Go.Proofs.Ytiebfnchimfjiaa
