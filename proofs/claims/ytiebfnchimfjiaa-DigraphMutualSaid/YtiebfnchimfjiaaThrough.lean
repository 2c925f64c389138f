/- ref.through, ref.Cycle: the walks. -/
import Derived.Test.YtiebfnchimfjiaaRefTopo
import Derived.Test.YtiebfnchimfjiaaCycP
namespace Go.Proofs.Ytiebfnchimfjiaa
open Go.RowKit Go.Deep

/-- What Distances of the reversed graph leaves: the distances to v. -/
theorem dist_dv {g : List (List Int)} {v : Nat} {o : Nat → Int} (hv : v < g.length) (h : DistOf (G.rev g) v o) : (List.range g.length).map o = (List.range g.length).map (G.dv g v) := by
  refine List.map_congr_left fun b hb => ?_
  have hb' := List.mem_range.1 hb
  rcases h b (by rw [G.rev_len]; exact hb') with ⟨s, e, _, h1⟩ | ⟨h1, _⟩
  · obtain rfl : v = s := by omega
    exact G.dv_eq h1
  · rw [G.rev_len] at h1; omega

def ThroughPost (w : World) (g : List (List Int)) (v : Nat) (e : Ending) (w' : World) : Prop :=
  ∃ p m r, e = .returned p ∧ Below w.heap.size w w' ∧ Ints w' w'.heap.size p (G.ints (v :: r)) ∧ G.Best (G.dv g v) (fun w => w < g.length ∧ G.ed g v w = true) (m : Nat) ∧ G.Pth g v m v r

set_option maxHeartbeats 4000000 in
theorem Through_any (u : Value) (v : Nat) (g : List (List Int)) (w : World) (hg : Rows2 w w.heap.size u g) (hn : g.length ≤ 1000000) (hv : v < g.length) (hcy : G.Pk g g.length v v) :
    Calls Try.prog 37 #[u, .int .i64 v] w (ThroughPost w g v) := by
  have hRv := RefReverse_any u g w hg hn
  obtain ⟨A, c, rfl, hc1, hc2, hrows⟩ := hg.parts
  have hm1 := maxLen_le hc2
  obtain ⟨n, e⟩ : ∃ n, g.length = n := ⟨_, rfl⟩
  have HN := Lib.hid e
  have HCY := Lib.hid hcy
  rw [e] at hn hc1 hg hRv hv ⊢
  have HG := Lib.hid hg
  have CRV := hide hRv
  clear e hrows hg hc2 hRv hcy
  obtain ⟨i0, hi0, hz0, hz1, hz2⟩ := info_parts info3
  go_enter Try.func37, Try.ntmps37
  go_wp2_with fail
  refine (unhide CRV).mono ?_
  rintro e w1 ⟨back, rfl, hb1, hback⟩
  have hD := RefDist_any back (G.rev g) v w1 hback (by rw [G.rev_len]; have := HN.out; omega)
  have HB1 := Lib.hid hb1
  have CD := hide hD
  clear hb1 hback CRV hD
  go_wp2_with fail
  refine (unhide CD).mono ?_
  rintro e w2 ⟨p, o, rfl, hb2, hp, hdo⟩
  rw [G.rev_len] at hp
  rw [dist_dv (by have := HN.out; omega) hdo, HN.out] at hp
  obtain ⟨P, pc, rfl, hp1, hp2, hpe⟩ := hp.parts
  have hmp := maxLen_le hp2
  simp only [List.length_map, List.length_range] at hp1 ⊢
  have HPE := Lib.hid hpe
  have HB2 : Hid (Below w.heap.size w w2) := HB1.out.trans (hb2.mono HB1.out.size)
  clear hb2 hp hdo hp2 hpe CD HB1
  go_wp2_with fail
  go_loop [6, 7] (fun x i => ∃ (m : Int) (j : Nat), -1 ≤ m ∧ m ≤ n ∧ j ≤ n ∧ x = .int .i64 m ∧ i = .int .i64 j ∧ Hid (G.Best (G.dv g v) (fun w => w < j ∧ G.ed g v w = true) m)) (fun _ i => n - (intOf i).toNat)
  case atStart => exact ⟨-1, 0, by omega, by omega, Nat.zero_le _, rfl, rfl, G.Best.start fun w h => absurd h.1 (by omega)⟩
  case round =>
    obtain ⟨m, j, hm0, hmn, hj, rfl, rfl, HM⟩ := hrel
    by_cases hjn : j < n
    · obtain ⟨pd, rfl, hpb, hpc⟩ := HPE.out j (G.dv g v j) (by simp [hjn])
      have hd1 := G.dv_low (g := g) v j
      have hd2 := G.dv_bound (g := g) (v := v) (b := j) (by have := HN.out; omega)
      have con := edge_row _ g v j w2 w2.heap.size ((HG.out.same (Same.of_below HB2.out)).more HB2.out.size) (by have := HN.out; omega)
      obtain ⟨d, hd⟩ : ∃ d, G.dv g v j = d := ⟨_, rfl⟩
      rw [hd] at hpc hd1 hd2
      have hd3 : d ≤ n := by have := HN.out; omega
      have HD := Lib.hid hd
      have CON := hide con
      clear hd con hd2
      cases he : decide ((j : Int) ∈ G.row g v) with
      | false =>
        rw [he] at CON
        have HE := Lib.hid he
        clear he
        go_wp2_with (go_at_call 33; refine (unhide CON).mono ?_; rintro e w' ⟨rfl, rfl⟩)
        go_round
        case rel => exact ⟨m, j + 1, by omega, by omega, by omega, rfl, by go_num, HM.out.same (G.upto_no (by have := HE.out; unfold G.ed; rw [this]; simp))⟩
        case measure => simp [intOf]; omega
      | true =>
        rw [he] at CON
        have HE := Lib.hid he
        clear he
        by_cases h0 : 0 ≤ d
        · by_cases h1 : m < 0
          · go_wp2_with (go_at_call 33; refine (unhide CON).mono ?_; rintro e w' ⟨rfl, rfl⟩)
            go_round
            case rel => exact ⟨d, j + 1, by omega, by omega, by omega, rfl, by go_num, by rw [← HD.out]; exact HM.out.take (G.upto_yes HE.out) (by rw [HD.out]; exact h0) (by rw [HD.out]; exact .inl h1)⟩
            case measure => simp [intOf]; omega
          · by_cases h2 : d < m
            · go_wp2_with (go_at_call 33; refine (unhide CON).mono ?_; rintro e w' ⟨rfl, rfl⟩)
              go_round
              case rel => exact ⟨d, j + 1, by omega, by omega, by omega, rfl, by go_num, by rw [← HD.out]; exact HM.out.take (G.upto_yes HE.out) (by rw [HD.out]; exact h0) (by rw [HD.out]; exact .inr h2)⟩
              case measure => simp [intOf]; omega
            · go_wp2_with (go_at_call 33; refine (unhide CON).mono ?_; rintro e w' ⟨rfl, rfl⟩)
              go_round
              case rel => exact ⟨m, j + 1, by omega, by omega, by omega, rfl, by go_num, HM.out.leave (G.upto_yes HE.out) (by rw [HD.out]; omega)⟩
              case measure => simp [intOf]; omega
        · go_wp2_with (go_at_call 33; refine (unhide CON).mono ?_; rintro e w' ⟨rfl, rfl⟩)
          go_round
          case rel => exact ⟨m, j + 1, by omega, by omega, by omega, rfl, by go_num, HM.out.leave (G.upto_yes HE.out) (by rw [HD.out]; omega)⟩
          case measure => simp [intOf]; omega
    · obtain rfl : j = n := by omega
      have hM : G.Best (G.dv g v) (fun w => w < g.length ∧ G.ed g v w = true) m := HM.out.same (fun x => by have := HN.out; subst this; exact Iff.rfl)
      have hm0 : 0 ≤ m := by
        rcases hM with ⟨h1, h2⟩ | ⟨h1, _⟩
        · obtain ⟨x, hx, hx1, hx2⟩ := (G.on_cycle (by have := HN.out; omega)).1 HCY.out
          have := h2 x ⟨hx, hx1⟩; omega
        · exact h1
      obtain ⟨mm, rfl⟩ := ofNat_of hm0
      have HBM := Lib.hid hM
      have hex : ∃ b, G.SucD g v v mm b := by
        rcases hM with ⟨h1, _⟩ | ⟨_, ⟨x, ⟨hx, hx1⟩, hx2⟩, _⟩
        · omega
        · exact ⟨x, hx, hx1, hx2⟩
      have HEX := Lib.hid hex
      clear hM hm0 hex HM
      go_wp2_with fail
      obtain ⟨w3, hw3⟩ : ∃ w3, w3 = w2.alloc (.cells #[.int .i64 v] 3) := ⟨_, rfl⟩
      have hS : w3.ownsRow w2.heap.size 3 1 (.slice (some ⟨w2.heap.size, 0, none⟩) 1 1) 1 ((G.ints [v]).map (.int .i64)) ∧ Below w2.heap.size w2 w3 := by
        rw [hw3]; exact ⟨World.ownsRow_lit w2 #[.int .i64 v] 1 (Nat.le_refl _) (by simp [maxLen]) (by simp), (Below.refl _ _).alloc (Nat.le_refl _) _⟩
      have HS := Lib.hid hS
      rw [← hw3]
      clear hS hw3
      obtain ⟨B2, hB2⟩ : ∃ B2, w2.heap.size = B2 := ⟨_, rfl⟩
      rw [hB2] at HS HPE ⊢
      have HB2' := Lib.hid hB2
      clear hB2
      go_loopw [6, 8, 9] (fun x o y wr => ∃ (l a g1 q c : Nat), x = .int .i64 l ∧ o = .slice (some ⟨g1, 0, none⟩) q c ∧ y = .int .i64 a ∧ a < j ∧ l ≤ j ∧ q ≤ j + 1 ∧ q ≤ c ∧ c ≤ 9223372036854775807 ∧
        Hid (∃ r, q = r.length + 1 ∧ r.length + l = mm ∧ wr.ownsRow B2 3 1 (.slice (some ⟨g1, 0, none⟩) q c) q ((G.ints (v :: r)).map (.int .i64)) ∧ Below B2 w2 wr ∧ (∃ b, G.SucD g v a l b) ∧ ∀ rest, G.Pth g v l a rest → G.Pth g v mm v (r ++ rest))) (fun x _ _ _ => (intOf x).toNat)
      case atStart => exact ⟨mm, v, B2, 1, 1, rfl, rfl, rfl, hv, by omega, by omega, Nat.le_refl _, by omega, [], rfl, by simp, HS.out.1, HS.out.2, HEX.out, fun rest h => h⟩
      case round =>
        clear HS HEX
        obtain ⟨l, a, g1, q, c1, rfl, rfl, rfl, haj, hlj, hqj, hqc, hcm, hI⟩ := hrel
        obtain ⟨r, hq, hrl, hown, hB, hex, hpth⟩ := hI.out
        clear hI
        have HQ := Lib.hid hq; have HRL := Lib.hid hrl; have HOW := Lib.hid hown; have HB := Lib.hid hB; have HEX := Lib.hid hex; have HPT := Lib.hid hpth
        have hsz := hB.size
        clear hq hrl hown hB hex hpth
        by_cases hl0 : 0 < l
        · go_wp2_with fail
          go_loop [10, 11] (fun x b => ∃ (y : Int) (i : Int), -1 ≤ i ∧ i < j ∧ -1 ≤ y ∧ y < j ∧ x = .int .i64 y ∧ b = .int .i64 i ∧ Hid (G.Lst (fun w => i + 1 ≤ w ∧ G.SucD g v a l w) y)) (fun _ b => (intOf b + 1).toNat)
          case atStart => exact ⟨-1, (j : Int) - 1, by omega, by omega, by omega, by omega, rfl, rfl, .inl ⟨rfl, fun w h => by have := h.1; have := h.2.1; have := HN.out; omega⟩⟩
          case round =>
            obtain ⟨y, i, hi1, hi2, hy1, hy2, rfl, rfl, HX⟩ := hrel
            by_cases h0 : 0 ≤ i
            · obtain ⟨z, rfl⟩ := ofNat_of h0
              have hzj : z < j := by omega
              obtain ⟨pd, rfl, hpb, hpc⟩ := HPE.out z (G.dv g v z) (by simp [hzj])
              have hpc' : wr.cell? (pd.add z) = some (.int .i64 (G.dv g v z)) := ((Same.of_below HB.out).cell (by rw [block_of_add]; exact hpb)).trans hpc
              have con := edge_row _ g a z wr wr.heap.size (((HG.out.same (Same.of_below HB2.out)).same ((Same.of_below HB.out).mono (by have := HB2.out.size; have := HB2'.out; omega))).more (by have := HB2.out.size; have := HB2'.out; have := HB.out.size; omega)) (by have := HN.out; omega)
              obtain ⟨d, hd⟩ : ∃ d, G.dv g v z = d := ⟨_, rfl⟩
              rw [hd] at hpc'
              have HD := Lib.hid hd
              have CON := hide con
              clear hd con hpc h0
              have next_no : ¬ G.SucD g v a l z → Hid (G.Lst (fun w => (z : Int) - 1 + 1 ≤ w ∧ G.SucD g v a l w) y) := fun h => HX.out.same (fun w => by
                constructor
                · rintro ⟨h1, h2⟩
                  refine ⟨?_, h2⟩
                  by_cases e : w = z
                  · subst e; exact absurd h2 h
                  · omega
                · rintro ⟨h1, h2⟩; exact ⟨by omega, h2⟩)
              have next_yes : G.SucD g v a l z → Hid (G.Lst (fun w => (z : Int) - 1 + 1 ≤ w ∧ G.SucD g v a l w) z) := fun h =>
                .inr ⟨z, rfl, ⟨by omega, h⟩, fun w hw => by have := hw.1; omega⟩
              have NN := Lib.hid next_no; have NY := Lib.hid next_yes
              clear next_no next_yes
              cases he : decide ((z : Int) ∈ G.row g a) with
              | false =>
                rw [he] at CON
                have HE := Lib.hid he
                clear he
                go_wp2_with (go_at_call 33; refine (unhide CON).mono ?_; rintro e w' ⟨rfl, rfl⟩)
                go_round
                case rel => exact ⟨y, (z : Int) - 1, by omega, by omega, hy1, hy2, rfl, rfl, NN.out (fun h => by have := h.2.1; unfold G.ed at this; rw [HE.out] at this; cases this)⟩
                case measure => simp [intOf]
              | true =>
                rw [he] at CON
                have HE := Lib.hid he
                clear he
                by_cases hdl : d = l
                · have b1 : (d == (l : Int)) = true := by simpa using hdl
                  have HDL := Lib.hid hdl
                  clear hdl
                  go_wp2_with (go_at_call 33; refine (unhide CON).mono ?_; rintro e w' ⟨rfl, rfl⟩)
                  go_round
                  case rel => exact ⟨z, (z : Int) - 1, by omega, by omega, by omega, by omega, rfl, rfl, NY.out ⟨by have := HN.out; omega, HE.out, by rw [HD.out]; exact HDL.out⟩⟩
                  case measure => simp [intOf]
                · have b1 : (d == (l : Int)) = false := by simpa using hdl
                  have HDL := Lib.hid hdl
                  clear hdl
                  go_wp2_with (go_at_call 33; refine (unhide CON).mono ?_; rintro e w' ⟨rfl, rfl⟩)
                  go_round
                  case rel => exact ⟨y, (z : Int) - 1, by omega, by omega, hy1, hy2, rfl, rfl, NN.out (fun h => HDL.out (by rw [← HD.out]; exact h.2.2))⟩
                  case measure => simp [intOf]
            · have hX : G.Lst (G.SucD g v a l) y := HX.out.same (fun w => ⟨fun h => ⟨by omega, h⟩, fun h => h.2⟩)
              obtain ⟨b, hyb, hsb⟩ : ∃ b : Nat, y = b ∧ G.SucD g v a l b := by
                rcases hX with ⟨_, h2⟩ | ⟨b, h1, h2, _⟩
                · obtain ⟨b, hb⟩ := HEX.out; exact absurd hb (h2 b)
                · exact ⟨b, h1, h2⟩
              subst hyb
              have HLB := Lib.hid hX; have HSB := Lib.hid hsb
              clear hX hsb HX
              go_wp2_with (first
                | (at_builtin; refine wpList_append_lies _ rfl (.tmp 76) (.tmp 78) _ rfl B2 3 i0 _ 1 8 Try.underlying23 hi0 hz0 hz1 hz2 rfl (by omega) (.slice (some ⟨g1, 0, none⟩) q c1) q _ rfl (HOW.out.alloc _) ⟨wr.heap.size, 0, none⟩ 1 1 [.int .i64 b] rfl rfl (cell_one_new _ _ _) (fun u hu => by simp at hu; subst hu; rfl) (by omega) (by unfold maxLen; omega) (by omega) (by simp; have := HB2'.out; omega) (wr.heap.size + 1) (by simp) ?_))
              intro g2 cap w4 h1 h2 h3 h4
              have HF := Lib.hid (And.intro h1 h2)
              have hcap := (Sl.of_own h1)
              have hcap1 : q + 1 ≤ cap ∧ cap ≤ 9223372036854775807 := by
                obtain ⟨_, _, e, k1, k2, _⟩ := hcap
                injection e with _ e2 e3
                subst e3
                have := h1.1
                exact ⟨by omega, maxLen_le k2⟩
              clear h1 h2 h3 h4 hcap
              go_wp2_with fail
              go_roundw
              case rel =>
                obtain ⟨h1, h2⟩ := HF.out
                obtain ⟨l', rfl⟩ : ∃ l', l = l' + 1 := ⟨l - 1, by omega⟩
                refine ⟨l', b, g2, q + 1, cap, by go_num, rfl, rfl, by have := HSB.out.1; have := HN.out; omega, by omega, by have := HQ.out; have := HRL.out; omega, hcap1.1, hcap1.2, r ++ [b], by simp [HQ.out], by have := HRL.out; simp; omega, ?_, ?_, ?_, ?_⟩
                · simpa [G.ints] using h1
                · exact (HB.out.alloc (by have := HB2'.out; omega) _).grown h2 (by simp; have := HB2'.out; omega) (fun q hq => (HOW.out.lt q hq).1)
                · obtain ⟨c, k1, k2, k3⟩ := G.dv_next HSB.out.1 (by have := HSB.out.2.2; simpa using this)
                  exact ⟨c, k1, k2, k3⟩
                · exact G.Pth.snoc HPT.out (by have := HLB.out; simpa using this)
              case measure => simp [intOf]; omega
        · obtain rfl : l = 0 := by omega
          go_wp2_with fail
          go_ret
          refine ⟨_, mm, r, rfl, HB2.out.trans (HB.out.mono (by have := HB2.out.size; have := HB2'.out; omega)), Sl.of_own HOW.out, HBM.out, ?_⟩
          have := HPT.out [] (.nil a)
          rwa [List.append_nil] at this

def CycPost (w : World) (g : List (List Int)) (e : Ending) (w' : World) : Prop :=
  ∃ p c, e = .returned p ∧ Below w.heap.size w w' ∧ Ints w' w'.heap.size p c ∧ G.IsCyc g c

set_option maxHeartbeats 1000000 in
theorem RefCycle_any (u : Value) (g : List (List Int)) (w : World) (hg : Rows2 w w.heap.size u g) (hn : g.length ≤ 1000000) :
    Calls Try.prog 28 #[u] w (CycPost w g) := by
  have hP := Paths_any u g w hg hn
  obtain ⟨A, c, rfl, hc1, hc2, hrows⟩ := hg.parts
  have hm1 := maxLen_le hc2
  obtain ⟨n, e⟩ : ∃ n, g.length = n := ⟨_, rfl⟩
  have HN := Lib.hid e
  rw [e] at hn hc1 hg hP ⊢
  have HG := Lib.hid hg
  have CP := hide hP
  clear e hrows hg hc2 hP
  go_enter Try.func28, Try.ntmps28
  go_wp2_with fail
  refine (unhide CP).mono ?_
  rintro e w1 ⟨p, m, rfl, hb, hm, hW⟩
  rw [HN.out] at hm
  have hml : (matL n m).length = n := by simp [matL]
  obtain ⟨P, pc, rfl, hp1, hp2, hrows⟩ := hm.parts
  rw [hml] at hp1 ⊢
  have hm3 := maxLen_le hp2
  have HM := Lib.hid hrows; have HW := Lib.hid hW; have HB := Lib.hid hb
  clear hm hW hb hp2 hrows hml CP
  go_wp2_with fail
  go_loop [4] (fun i => ∃ k : Nat, k ≤ n ∧ i = .int .i64 k ∧ Hid (∀ a, a < k → ¬ G.Pk g g.length a a)) (fun i => n - (intOf i).toNat)
  case atStart => exact ⟨0, Nat.zero_le _, rfl, fun a ha => absurd ha (by omega)⟩
  case round =>
    obtain ⟨k, hk, rfl, HI⟩ := hrel
    by_cases hlt : k < n
    · have hma : (matL n m)[k]? = some ((List.range n).map fun b => m k b) := by simp [matL, hlt]
      obtain ⟨pd, pu, rfl, hpb, hpc, hpB⟩ := HM.out k _ hma
      obtain ⟨U, uc, rfl, hu1, hu2, hels2⟩ := hpB.parts
      have hum := maxLen_le hu2
      simp only [List.length_map, List.length_range] at hpc hu1
      obtain ⟨ud, rfl, hub, huc⟩ := hels2 k (m k k) (by simp [hlt])
      have hpk := HW.out.fin k k (by have := HN.out; omega) (by have := HN.out; omega)
      have HPK := Lib.hid hpk
      clear hma hpB hu2 hels2 hpk
      cases hmk : m k k with
      | true =>
        rw [hmk] at huc HPK
        have con := Through_any (.slice A n c) k g w1 ((HG.out.same (Same.of_below HB.out)).more HB.out.size) (by have := HN.out; omega) (by have := HN.out; omega) (HPK.out.1 rfl)
        have CON := hide con
        clear con hmk
        go_wp2_with fail
        refine (unhide CON).mono ?_
        rintro e w2 ⟨q, mm, r, rfl, hb2, hq, hbest, hpth⟩
        have H2 := Lib.hid (And.intro hb2 (And.intro hq (And.intro hbest hpth)))
        clear hb2 hq hbest hpth CON
        go_wp2_with fail
        go_ret
        obtain ⟨hb2, hq, hbest, hpth⟩ := H2.out
        exact ⟨_, _, rfl, HB.out.trans (hb2.mono HB.out.size), hq, .inr ⟨k, mm, r, by have := HN.out; omega, HPK.out.1 (by first | rfl | trivial), HI.out, hbest, hpth, rfl⟩⟩
      | false =>
        rw [hmk] at huc HPK
        clear hmk
        go_wp2_with fail
        go_round
        case rel => exact ⟨k + 1, by omega, by go_num, fun a ha hp => by
          by_cases e : a = k
          · subst e; have := HPK.out.2 hp; cases this
          · exact HI.out a (by omega) hp⟩
        case measure => simp [intOf]; omega
    · go_wp2_with fail
      go_ret
      exact ⟨_, [], rfl, HB.out, Sl.nil, .inl ⟨rfl, fun v hv => HI.out v (by have := HN.out; omega)⟩⟩
end Go.Proofs.Ytiebfnchimfjiaa
