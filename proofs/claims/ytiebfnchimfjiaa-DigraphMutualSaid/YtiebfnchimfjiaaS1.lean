/- The small functions that only read: inside, edge, Ints, has, free, Small, bools, Lists. -/
import Derived.Test.YtiebfnchimfjiaaRows
import Derived.Test.YtiebfnchimfjiaaMem
import Derived.Test.YtiebfnchimfjiaaPure
namespace Go.Proofs.Ytiebfnchimfjiaa
open Go.RowKit

theorem inside_any (A : Option Addr) (n c : Nat) (v : Int) (w : World) :
    Calls Try.prog 31 #[.slice A n c, .int .i64 v] w fun e w' => e = .returned (.bool (decide (0 ≤ v ∧ v < n))) ∧ w = w' := by
  by_cases h0 : 0 ≤ v
  · by_cases h1 : v < n
    · have hd : decide (v < (n : Int)) = true := by simpa using h1
      have hd0 : decide (0 ≤ v) = true := by simpa using h0
      go_enter Try.func31, Try.ntmps31
      go_wp2
      go_ret
      exact ⟨ret_bool (by simp [h0, h1]), rfl⟩
    · have hd : decide (v < (n : Int)) = false := by simpa using h1
      have hd0 : decide (0 ≤ v) = true := by simpa using h0
      go_enter Try.func31, Try.ntmps31
      go_wp2
      go_ret
      exact ⟨ret_bool (by simp; try omega), rfl⟩
  · have hd : decide (0 ≤ v) = false := by simpa using h0
    go_enter Try.func31, Try.ntmps31
    go_wp2
    go_ret
    exact ⟨ret_bool (by simp), rfl⟩

theorem inside_yes (A : Option Addr) (n c : Nat) (v : Int) (w : World) (h : 0 ≤ v ∧ v < n) :
    Calls Try.prog 31 #[.slice A n c, .int .i64 v] w fun e w' => e = .returned (.bool true) ∧ w = w' := by
  have := inside_any A n c v w
  rwa [decide_eq_true h] at this
theorem inside_no (A : Option Addr) (n c : Nat) (v : Int) (w : World) (h : ¬ (0 ≤ v ∧ v < n)) :
    Calls Try.prog 31 #[.slice A n c, .int .i64 v] w fun e w' => e = .returned (.bool false) ∧ w = w' := by
  have := inside_any A n c v w
  rwa [decide_eq_false h] at this

set_option maxHeartbeats 400000 in
theorem edge_any (v : Value) (g : List (List Int)) (xs : List Int) (a : Nat) (b : Int) (w : World) (B : Nat)
    (hg : Rows2 w B v g) (ha : g[a]? = some xs) :
    Calls Try.prog 33 #[v, .int .i64 a, .int .i64 b] w fun e w' => e = .returned (.bool (decide (b ∈ xs))) ∧ w = w' := by
  obtain ⟨A, c, rfl, hc1, hc2, hrows⟩ := hg.parts
  obtain ⟨ad, u, rfl, hb, hcell, hI⟩ := hrows a xs ha
  obtain ⟨X, d, rfl, hd1, hd2, hels⟩ := hI.parts
  have hal : a < g.length := (List.getElem?_eq_some_iff.1 ha).1
  have hm1 := maxLen_le hc2
  have hm2 := maxLen_le hd2
  have HE := Lib.hid hels; have HA := Lib.hid ha
  clear hels hrows hg hI ha hc2 hd2
  go_enter Try.func33, Try.ntmps33
  go_wp2
  go_loop [7] (fun i => ∃ k : Nat, k ≤ xs.length ∧ i = .int .i64 k ∧ Hid (∀ j : Nat, j < k → xs[j]? ≠ some b)) (fun i => xs.length - (intOf i).toNat)
  case atStart => exact ⟨0, Nat.zero_le _, rfl, fun j hj => absurd hj (by omega)⟩
  case round =>
    obtain ⟨k, hk, rfl, hI⟩ := hrel
    by_cases hlt : k < xs.length
    · obtain ⟨xd, rfl, hb', hc'⟩ := HE.out k _ (List.getElem?_eq_getElem hlt)
      by_cases he : xs[k] = b
      · have hne : (xs[k] == b) = true := by simpa using he
        have HX := Lib.hid he; clear he
        go_wp2
        go_ret
        exact ⟨ret_bool (by simp; rw [← HX.out]; exact List.getElem_mem hlt), rfl⟩
      · have hne : (xs[k] == b) = false := by simpa using he
        have HX := Lib.hid he; clear he
        go_wp2
        go_round
        case rel =>
          refine ⟨k + 1, by omega, by go_num, fun j hj => ?_⟩
          rcases Nat.lt_or_ge j k with h | h
          · exact hI.out j h
          · obtain rfl : j = k := by omega
            rw [List.getElem?_eq_getElem hlt]; intro h; injection h with h; exact HX.out h
        case measure => simp [intOf]; omega
    · go_wp2
      go_ret
      refine ⟨ret_bool ?_, rfl⟩
      have : ¬ b ∈ xs := by
        intro hm
        obtain ⟨j, hj, e⟩ := List.getElem_of_mem hm
        exact hI.out j (by omega) (by rw [List.getElem?_eq_getElem hj, e])
      simp [this]

/-- as 'quiet_add' of the guide's small lemmas -/
theorem quiet_add {P : Program} {f : FuncId} {args : Array Value} {w : World} {N : Nat} {a : Nat} {v : Value} (h : Calls P f args (w.drewN N) (Quiet v (w.drewN N))) (hN : ∃ n, N = a + n) :
    Calls P f args (w.drewN N) fun e w'' => e = .returned v ∧ ∃ m, w'' = w.drewN (a + m) :=
  h.mono fun _ _ ⟨he, m, hm⟩ => ⟨he, by obtain ⟨n, rfl⟩ := hN; exact ⟨n + m, by rw [hm, World.drewN_drewN, Nat.add_assoc]⟩⟩

theorem drawn2 (w : World) (a b : Nat) : ∃ m, (w.drewN a).drewN b = w.drewN m := ⟨_, World.drewN_drewN _ _ _⟩

open G
theorem row_eq {g : List (List Int)} {a : Nat} (h : a < g.length) : g[a]? = some (row g a) := by
  unfold G.row; rw [List.getD_eq_getElem?_getD, List.getElem?_eq_getElem h]; rfl
theorem edge_row (v : Value) (g : List (List Int)) (a : Nat) (b : Int) (w : World) (B : Nat) (hg : Rows2 w B v g) (ha : a < g.length) :
    Calls Try.prog 33 #[v, .int .i64 a, .int .i64 b] w fun e w' => e = .returned (.bool (decide (b ∈ row g a))) ∧ w = w' :=
  edge_any v g _ a b w B hg (row_eq ha)

theorem list_eq_of_all {α : Type} {xs ys : List α} (hl : xs.length = ys.length) (h : ∀ j : Nat, j < xs.length → xs[j]? = ys[j]?) : xs = ys := by
  apply List.ext_getElem? ; intro i
  by_cases hi : i < xs.length
  · exact h i hi
  · rw [List.getElem?_eq_none (by omega), List.getElem?_eq_none (by omega)]
theorem all_snoc {α : Type} {xs ys : List α} {k : Nat} (h : ∀ j : Nat, j < k → xs[j]? = ys[j]?) (hk : xs[k]? = ys[k]?) : ∀ j : Nat, j < k + 1 → xs[j]? = ys[j]? := by
  intro j hj
  rcases Nat.lt_or_ge j k with h1 | h1
  · exact h j h1
  · obtain rfl : j = k := by omega
    exact hk

set_option maxHeartbeats 400000 in
theorem Ints_any (u v : Value) (xs ys : List Int) (w : World) (B : Nat) (hx : Ints w B u xs) (hy : Ints w B v ys) :
    Calls Try.prog 20 #[u, v] w (Quiet (.bool (decide (xs = ys))) w) := by
  obtain ⟨X, c, rfl, hc1, hc2, hels⟩ := hx.parts
  obtain ⟨Y, d, rfl, hd1, hd2, hels'⟩ := hy.parts
  have hm1 := maxLen_le hc2
  have hm2 := maxLen_le hd2
  have HE := Lib.hid hels; have HF := Lib.hid hels'
  clear hels hels' hx hy hc2 hd2
  by_cases hl : xs.length = ys.length
  · obtain ⟨n, hn⟩ : ∃ n, xs.length = n := ⟨_, rfl⟩
    rw [hn] at hl hc1
    rw [← hl] at hd1
    rw [hn, ← hl]
    have HN := Lib.hid hn; have HM := Lib.hid hl
    clear hn hl
    go_enter Try.func20, Try.ntmps20
    go_wp2
    go_loopw [5] (fun i wr => ∃ k : Nat, k ≤ n ∧ i = .int .i64 k ∧ Hid ((∀ j : Nat, j < k → xs[j]? = ys[j]?) ∧ ∃ q, wr = w.drewN q)) (fun i _ => n - (intOf i).toNat)
    case atStart => exact ⟨0, Nat.zero_le _, rfl, fun j hj => absurd hj (by omega), 0, rfl⟩
    case round =>
      obtain ⟨k, hk, rfl, hI⟩ := hrel
      obtain ⟨hall, q, hw⟩ := hI.out
      clear hI
      subst hw
      have HA := Lib.hid hall; clear hall
      by_cases hlt : k < n
      · have hkx : k < xs.length := by have := HN.out; omega
        have hky : k < ys.length := by have := HM.out; omega
        obtain ⟨ad, rfl, hb, hc⟩ := HE.out k _ (List.getElem?_eq_getElem hkx)
        obtain ⟨bd, rfl, hb', hc'⟩ := HF.out k _ (List.getElem?_eq_getElem hky)
        by_cases he : xs[k] = ys[k]
        · have hne : (xs[k] != ys[k]) = false := by simpa using he
          have HX := Lib.hid he; clear he
          go_wp2
          go_quiet (fail)
          go_wp2
          go_roundw
          case rel => exact ⟨k + 1, by omega, by go_num, all_snoc HA.out (by rw [List.getElem?_eq_getElem hkx, List.getElem?_eq_getElem hky, HX.out]), _, rfl⟩
          case measure => simp [intOf]; omega
        · have hne : (xs[k] != ys[k]) = true := by simpa using he
          have HX := Lib.hid he; clear he
          go_wp2
          go_quiet (fail)
          go_wp2
          go_ret
          exact ⟨ret_bool (by simp; intro h; exact HX.out (by simp [h])), by first | exact ⟨_, rfl⟩ | exact drawn2 _ _ _⟩
      · go_wp2
        go_ret
        exact ⟨ret_bool (by simp; exact list_eq_of_all (by rw [HN.out, ← HM.out]) (fun j hj => HA.out j (by have := HN.out; omega))), _, rfl⟩
  · have hne : ((xs.length : Int) != (ys.length : Int)) = true := by simp; omega
    have HL := Lib.hid hl; clear hl
    go_enter Try.func20, Try.ntmps20
    go_wp2
    go_ret
    exact ⟨ret_bool (by simp; intro h; exact HL.out (by rw [h])), 0, rfl⟩

set_option maxHeartbeats 400000 in
theorem bools_any (u v : Value) (xs ys : List Bool) (w : World) (B : Nat) (hx : Bools w B u xs) (hy : Bools w B v ys) :
    Calls Try.prog 14 #[u, v] w (Quiet (.bool (decide (xs = ys))) w) := by
  obtain ⟨X, c, rfl, hc1, hc2, hels⟩ := hx.parts
  obtain ⟨Y, d, rfl, hd1, hd2, hels'⟩ := hy.parts
  have hm1 := maxLen_le hc2
  have hm2 := maxLen_le hd2
  have HE := Lib.hid hels; have HF := Lib.hid hels'
  clear hels hels' hx hy hc2 hd2
  by_cases hl : xs.length = ys.length
  · obtain ⟨n, hn⟩ : ∃ n, xs.length = n := ⟨_, rfl⟩
    rw [hn] at hl hc1
    rw [← hl] at hd1
    rw [hn, ← hl]
    have HN := Lib.hid hn; have HM := Lib.hid hl
    clear hn hl
    go_enter Try.func14, Try.ntmps14
    go_wp2
    go_loopw [5] (fun i wr => ∃ k : Nat, k ≤ n ∧ i = .int .i64 k ∧ Hid ((∀ j : Nat, j < k → xs[j]? = ys[j]?) ∧ ∃ q, wr = w.drewN q)) (fun i _ => n - (intOf i).toNat)
    case atStart => exact ⟨0, Nat.zero_le _, rfl, fun j hj => absurd hj (by omega), 0, rfl⟩
    case round =>
      obtain ⟨k, hk, rfl, hI⟩ := hrel
      obtain ⟨hall, q, hw⟩ := hI.out
      clear hI
      subst hw
      have HA := Lib.hid hall; clear hall
      by_cases hlt : k < n
      · have hkx : k < xs.length := by have := HN.out; omega
        have hky : k < ys.length := by have := HM.out; omega
        obtain ⟨ad, rfl, hb, hc⟩ := HE.out k _ (List.getElem?_eq_getElem hkx)
        obtain ⟨bd, rfl, hb', hc'⟩ := HF.out k _ (List.getElem?_eq_getElem hky)
        by_cases he : xs[k] = ys[k]
        · have hne : (!(xs[k] == ys[k])) = false := by simpa using he
          have HX := Lib.hid he; clear he
          go_wp2
          go_quiet (fail)
          go_wp2
          go_roundw
          case rel => exact ⟨k + 1, by omega, by go_num, all_snoc HA.out (by rw [List.getElem?_eq_getElem hkx, List.getElem?_eq_getElem hky, HX.out]), _, rfl⟩
          case measure => simp [intOf]; omega
        · have hne : (!(xs[k] == ys[k])) = true := by simpa using he
          have HX := Lib.hid he; clear he
          go_wp2
          go_quiet (fail)
          go_wp2
          go_ret
          exact ⟨ret_bool (by simp; intro h; exact HX.out (by simp [h])), by first | exact ⟨_, rfl⟩ | exact drawn2 _ _ _⟩
      · go_wp2
        go_ret
        exact ⟨ret_bool (by simp; exact list_eq_of_all (by rw [HN.out, ← HM.out]) (fun j hj => HA.out j (by have := HN.out; omega))), _, rfl⟩
  · have hne : ((xs.length : Int) != (ys.length : Int)) = true := by simp; omega
    have HL := Lib.hid hl; clear hl
    go_enter Try.func14, Try.ntmps14
    go_wp2
    go_ret
    exact ⟨ret_bool (by simp; intro h; exact HL.out (by rw [h])), 0, rfl⟩

set_option maxHeartbeats 400000 in
theorem Lists_any (u v : Value) (xs ys : List (List Int)) (w : World) (B : Nat) (hx : Rows2 w B u xs) (hy : Rows2 w B v ys) :
    Calls Try.prog 17 #[u, v] w (Quiet (.bool (decide (xs = ys))) w) := by
  obtain ⟨X, c, rfl, hc1, hc2, hels⟩ := hx.parts
  obtain ⟨Y, d, rfl, hd1, hd2, hels'⟩ := hy.parts
  have hm1 := maxLen_le hc2
  have hm2 := maxLen_le hd2
  have HE := Lib.hid hels; have HF := Lib.hid hels'
  clear hels hels' hx hy hc2 hd2
  by_cases hl : xs.length = ys.length
  · obtain ⟨n, hn⟩ : ∃ n, xs.length = n := ⟨_, rfl⟩
    rw [hn] at hl hc1
    rw [← hl] at hd1
    rw [hn, ← hl]
    have HN := Lib.hid hn; have HM := Lib.hid hl
    clear hn hl
    go_enter Try.func17, Try.ntmps17
    go_wp2
    go_loopw [5] (fun i wr => ∃ k : Nat, k ≤ n ∧ i = .int .i64 k ∧ Hid ((∀ j : Nat, j < k → xs[j]? = ys[j]?) ∧ ∃ q, wr = w.drewN q)) (fun i _ => n - (intOf i).toNat)
    case atStart => exact ⟨0, Nat.zero_le _, rfl, fun j hj => absurd hj (by omega), 0, rfl⟩
    case round =>
      obtain ⟨k, hk, rfl, hI⟩ := hrel
      obtain ⟨hall, q, hw⟩ := hI.out
      clear hI
      subst hw
      have HA := Lib.hid hall; clear hall
      by_cases hlt : k < n
      · have hkx : k < xs.length := by have := HN.out; omega
        have hky : k < ys.length := by have := HM.out; omega
        obtain ⟨ad, p, rfl, hb, hc, hi1⟩ := HE.out k _ (List.getElem?_eq_getElem hkx)
        obtain ⟨bd, r, rfl, hb', hc', hi2⟩ := HF.out k _ (List.getElem?_eq_getElem hky)
        have H1 := Lib.hid hi1; have H2 := Lib.hid hi2; clear hi1 hi2
        have con : ∀ N, Calls Try.prog 20 #[p, r] (w.drewN N) (Quiet (.bool (decide (xs[k] = ys[k]))) (w.drewN N)) := fun N => Ints_any p r _ _ (w.drewN N) B (H1.out.same (Same.drewN N)) (H2.out.same (Same.drewN N))
        have CON := Lib.hid con; clear con
        by_cases he : xs[k] = ys[k]
        · have hne : (decide (xs[k] = ys[k])) = true := by simpa using he
          have HX := Lib.hid he; clear he
          go_wp2
          go_quiet ((go_at_call 20; exact quiet_add (CON.out _) ⟨_, rfl⟩))
          go_wp2
          go_roundw
          case rel => exact ⟨k + 1, by omega, by go_num, all_snoc HA.out (by rw [List.getElem?_eq_getElem hkx, List.getElem?_eq_getElem hky, HX.out]), _, rfl⟩
          case measure => simp [intOf]; omega
        · have hne : (decide (xs[k] = ys[k])) = false := by simpa using he
          have HX := Lib.hid he; clear he
          go_wp2
          go_quiet ((go_at_call 20; exact quiet_add (CON.out _) ⟨_, rfl⟩))
          go_wp2
          go_ret
          exact ⟨ret_bool (by simp; intro h; exact HX.out (by simp [h])), by first | exact ⟨_, rfl⟩ | exact drawn2 _ _ _⟩
      · go_wp2
        go_ret
        exact ⟨ret_bool (by simp; exact list_eq_of_all (by rw [HN.out, ← HM.out]) (fun j hj => HA.out j (by have := HN.out; omega))), _, rfl⟩
  · have hne : ((xs.length : Int) != (ys.length : Int)) = true := by simp; omega
    have HL := Lib.hid hl; clear hl
    go_enter Try.func17, Try.ntmps17
    go_wp2
    go_ret
    exact ⟨ret_bool (by simp; intro h; exact HL.out (by rw [h])), 0, rfl⟩

set_option maxHeartbeats 400000 in
theorem has_any (v : Value) (xs : List Int) (b : Int) (w : World) (B : Nat) (hx : Ints w B v xs) :
    Calls Try.prog 35 #[v, .int .i64 b] w fun e w' => e = .returned (.bool (decide (b ∈ xs))) ∧ w = w' := by
  obtain ⟨X, d, rfl, hd1, hd2, hels⟩ := hx.parts
  have hm2 := maxLen_le hd2
  have HE := Lib.hid hels
  clear hels hx hd2
  go_enter Try.func35, Try.ntmps35
  go_wp2
  go_loop [5] (fun i => ∃ k : Nat, k ≤ xs.length ∧ i = .int .i64 k ∧ Hid (∀ j : Nat, j < k → xs[j]? ≠ some b)) (fun i => xs.length - (intOf i).toNat)
  case atStart => exact ⟨0, Nat.zero_le _, rfl, fun j hj => absurd hj (by omega)⟩
  case round =>
    obtain ⟨k, hk, rfl, hI⟩ := hrel
    by_cases hlt : k < xs.length
    · obtain ⟨xd, rfl, hb', hc'⟩ := HE.out k _ (List.getElem?_eq_getElem hlt)
      by_cases he : xs[k] = b
      · have hne : (xs[k] == b) = true := by simpa using he
        have HX := Lib.hid he; clear he
        go_wp2
        go_ret
        exact ⟨ret_bool (by simp; rw [← HX.out]; exact List.getElem_mem hlt), rfl⟩
      · have hne : (xs[k] == b) = false := by simpa using he
        have HX := Lib.hid he; clear he
        go_wp2
        go_round
        case rel =>
          refine ⟨k + 1, by omega, by go_num, fun j hj => ?_⟩
          rcases Nat.lt_or_ge j k with h | h
          · exact hI.out j h
          · obtain rfl : j = k := by omega
            rw [List.getElem?_eq_getElem hlt]; intro h; injection h with h; exact HX.out h
        case measure => simp [intOf]; omega
    · go_wp2
      go_ret
      refine ⟨ret_bool ?_, rfl⟩
      have : ¬ b ∈ xs := by
        intro hm
        obtain ⟨j, hj, e⟩ := List.getElem_of_mem hm
        exact hI.out j (by omega) (by rw [List.getElem?_eq_getElem hj, e])
      simp [this]

def freeS (g : List (List Int)) (done : List Int) (b : Int) : Bool := (List.range g.length).all fun a => !(decide (b ∈ row g a)) || decide ((a : Int) ∈ done)

set_option maxHeartbeats 400000 in
theorem free_any (u v : Value) (g : List (List Int)) (done : List Int) (b : Int) (w : World) (B : Nat) (hg : Rows2 w B u g) (hd : Ints w B v done) :
    Calls Try.prog 36 #[u, v, .int .i64 b] w fun e w' => e = .returned (.bool (freeS g done b)) ∧ w = w' := by
  have HG := Lib.hid hg; have HD := Lib.hid hd
  obtain ⟨A, c, rfl, hc1, hc2, hrows⟩ := hg.parts
  have hm1 := maxLen_le hc2
  clear hrows hg hd hc2
  go_enter Try.func36, Try.ntmps36
  go_wp2
  go_loop [7] (fun i => ∃ k : Nat, k ≤ g.length ∧ i = .int .i64 k ∧ Hid (∀ j : Nat, j < k → b ∈ row g j → (j : Int) ∈ done)) (fun i => g.length - (intOf i).toNat)
  case atStart => exact ⟨0, Nat.zero_le _, rfl, fun j hj => absurd hj (by omega)⟩
  case round =>
    obtain ⟨k, hk, rfl, hI⟩ := hrel
    by_cases hlt : k < g.length
    · have hI' : (b ∈ row g k → (k : Int) ∈ done) → Hid (∀ j : Nat, j < k + 1 → b ∈ row g j → (j : Int) ∈ done) := by
        intro h j hj
        rcases Nat.lt_or_ge j k with h1 | h1
        · exact hI.out j h1
        · obtain rfl : j = k := by omega
          exact h
      have HI := Lib.hid hI'; clear hI'
      by_cases h1 : b ∈ row g k
      · by_cases h2 : (k : Int) ∈ done
        · have e1 : decide (b ∈ row g k) = true := by simpa using h1
          have e2 : decide ((k : Int) ∈ done) = true := by simpa using h2
          have G2 := Lib.hid h2
          clear h1 h2
          go_wp2_with (first | (go_at_call 33; refine (edge_row _ g k b _ B HG.out hlt).mono ?_; rintro e w' ⟨rfl, rfl⟩) | (go_at_call 35; refine (has_any _ done k _ B HD.out).mono ?_; rintro e w' ⟨rfl, rfl⟩))
          go_round
          case rel => exact ⟨k + 1, by omega, by go_num, HI.out (fun _ => G2.out)⟩
          case measure => simp [intOf]; omega
        · have e1 : decide (b ∈ row g k) = true := by simpa using h1
          have e2 : decide ((k : Int) ∈ done) = false := by simpa using h2
          have G1 := Lib.hid h1
          have G2 := Lib.hid h2
          clear h1 h2
          go_wp2_with (first | (go_at_call 33; refine (edge_row _ g k b _ B HG.out hlt).mono ?_; rintro e w' ⟨rfl, rfl⟩) | (go_at_call 35; refine (has_any _ done k _ B HD.out).mono ?_; rintro e w' ⟨rfl, rfl⟩))
          go_ret
          refine ⟨ret_bool ?_, rfl⟩
          symm
          unfold freeS
          rw [List.all_eq_false]
          exact ⟨k, List.mem_range.2 hlt, by simp [G1.out, G2.out]⟩
      · have e1 : decide (b ∈ row g k) = false := by simpa using h1
        have G1 := Lib.hid h1
        clear h1
        go_wp2_with (first | (go_at_call 33; refine (edge_row _ g k b _ B HG.out hlt).mono ?_; rintro e w' ⟨rfl, rfl⟩) | (go_at_call 35; refine (has_any _ done k _ B HD.out).mono ?_; rintro e w' ⟨rfl, rfl⟩))
        go_round
        case rel => exact ⟨k + 1, by omega, by go_num, HI.out (fun h => absurd h G1.out)⟩
        case measure => simp [intOf]; omega
    · go_wp2_with fail
      go_ret
      refine ⟨ret_bool ?_, rfl⟩
      symm
      unfold freeS
      rw [List.all_eq_true]
      intro j hj
      by_cases h1 : b ∈ row g j
      · have := hI.out j (by have := List.mem_range.1 hj; omega) h1
        simp [this]
      · simp [h1]

def smallS (g : List (List Int)) : Bool := decide (g.length ≤ 12) && g.all fun l => decide (l.length ≤ 14)

set_option maxHeartbeats 400000 in
theorem Small_any (v : Value) (g : List (List Int)) (w : World) (B : Nat) (hg : Rows2 w B v g) :
    Calls Try.prog 12 #[v] w fun e w' => e = .returned (.bool (smallS g)) ∧ w = w' := by
  obtain ⟨A, c, rfl, hc1, hc2, hrows⟩ := hg.parts
  have hm1 := maxLen_le hc2
  have HE := Lib.hid hrows
  clear hrows hg hc2
  by_cases h12 : 12 < g.length
  · go_enter Try.func12, Try.ntmps12
    go_wp2
    go_ret
    exact ⟨ret_bool (by simp [smallS]; omega), rfl⟩
  · go_enter Try.func12, Try.ntmps12
    go_wp2
    go_loop [3] (fun i => ∃ k : Nat, k ≤ g.length ∧ i = .int .i64 k ∧ Hid (∀ l ∈ g.take k, l.length ≤ 14)) (fun i => g.length - (intOf i).toNat)
    case atStart => exact ⟨0, Nat.zero_le _, rfl, fun l hl => by simp at hl⟩
    case round =>
      obtain ⟨k, hk, rfl, hI⟩ := hrel
      by_cases hlt : k < g.length
      · obtain ⟨ad, u, rfl, hb, hcell, hi1⟩ := HE.out k _ (List.getElem?_eq_getElem hlt)
        obtain ⟨X, d, rfl, hd1, hd2, _⟩ := hi1.parts
        clear hi1
        by_cases h14 : 14 < g[k].length
        · go_wp2
          go_ret
          refine ⟨ret_bool ?_, rfl⟩
          symm
          unfold smallS
          rw [Bool.and_eq_false_iff]
          right
          rw [List.all_eq_false]
          exact ⟨g[k], List.getElem_mem hlt, by simp; omega⟩
        · go_wp2
          go_round
          case rel =>
            refine ⟨k + 1, by omega, by go_num, fun l hl => ?_⟩
            rw [List.take_succ_eq_append_getElem hlt] at hl
            rcases List.mem_append.1 hl with h | h
            · exact hI.out l h
            · simp at h; subst h; omega
          case measure => simp [intOf]; omega
      · go_wp2
        go_ret
        refine ⟨ret_bool ?_, rfl⟩
        symm
        unfold smallS
        rw [Bool.and_eq_true]
        refine ⟨by simp; omega, ?_⟩
        rw [List.all_eq_true]
        intro l hl
        have := hI.out l (by rw [List.take_of_length_le (by omega)]; exact hl)
        simpa using this
end Go.Proofs.Ytiebfnchimfjiaa
