/- digraph.Cycle: the walk. -/
import Derived.Test.YtiebfnchimfjiaaThrough
import Derived.Test.YtiebfnchimfjiaaDist
namespace Go.Proofs.Ytiebfnchimfjiaa
open Go.RowKit Go.Deep

/-- The nodes among the first j successors. -/
def Among (n : Nat) (l : List Int) (j : Nat) (w : Nat) : Prop := w < n ∧ (w : Int) ∈ l.take j
theorem among_yes {n : Nat} {l : List Int} {j y : Nat} (h : l.take (j + 1) = l.take j ++ [(y : Int)]) (hy : y < n) (w : Nat) : Among n l (j + 1) w ↔ Among n l j w ∨ w = y := by
  unfold Among; rw [h]
  simp only [List.mem_append, List.mem_singleton]
  constructor
  · rintro ⟨h1, h2 | h2⟩
    · exact .inl ⟨h1, h2⟩
    · exact .inr (by omega)
  · rintro (⟨h1, h2⟩ | rfl)
    · exact ⟨h1, .inl h2⟩
    · exact ⟨hy, .inr rfl⟩
theorem among_no {n : Nat} {l : List Int} {j : Nat} {x : Int} (h : l.take (j + 1) = l.take j ++ [x]) (hx : ¬ (0 ≤ x ∧ x < n)) (w : Nat) : Among n l (j + 1) w ↔ Among n l j w := by
  unfold Among; rw [h]
  simp only [List.mem_append, List.mem_singleton]
  constructor
  · rintro ⟨h1, h2 | h2⟩
    · exact ⟨h1, h2⟩
    · exact absurd (by omega) hx
  · rintro ⟨h1, h2⟩; exact ⟨h1, .inl h2⟩
theorem among_all {g : List (List Int)} {v : Nat} {l : List Int} {j : Nat} (hl : l = G.row g v) (hj : l.length ≤ j) (w : Nat) : Among g.length l j w ↔ (w < g.length ∧ G.ed g v w = true) := by
  unfold Among G.ed; rw [List.take_of_length_le hj, hl]; simp
theorem far_yes {A A' : Nat → Prop} {D : Nat → Int} {y : Nat} {d : Int} (h : ∀ w, A' w ↔ A w ∨ w = y) (hd : D y = d) (w : Nat) : (A' w ∧ D w = d) ↔ (A w ∧ D w = d) ∨ w = y := by
  rw [h]
  constructor
  · rintro ⟨h1 | h1, h2⟩
    · exact .inl ⟨h1, h2⟩
    · exact .inr h1
  · rintro (⟨h1, h2⟩ | rfl)
    · exact ⟨.inl h1, h2⟩
    · exact ⟨.inr rfl, hd⟩
theorem far_no {A A' : Nat → Prop} {D : Nat → Int} {y : Nat} {d : Int} (h : ∀ w, A' w ↔ A w ∨ w = y) (hd : D y ≠ d) (w : Nat) : (A' w ∧ D w = d) ↔ (A w ∧ D w = d) := by
  rw [h]
  constructor
  · rintro ⟨h1 | h1, h2⟩
    · exact ⟨h1, h2⟩
    · subst h1; exact absurd h2 hd
  · rintro ⟨h1, h2⟩; exact ⟨.inl h1, h2⟩

set_option maxRecDepth 100000 in
set_option maxHeartbeats 4000000 in
theorem Cycle_any (u : Value) (g : List (List Int)) (w : World) (hg : Rows2 w w.heap.size u g) (hn : g.length ≤ 1000000) :
    Calls Try.prog 27 #[u] w (CycPost w g) := by
  have hRv := Reverse_any u g w hg hn
  obtain ⟨A, c, rfl, hc1, hc2, hrows⟩ := hg.parts
  have hm1 := maxLen_le hc2
  obtain ⟨n, e⟩ : ∃ n, g.length = n := ⟨_, rfl⟩
  have HN := Lib.hid e
  rw [e] at hn hc1 hg hRv ⊢
  have HG := Lib.hid hrows
  have CRV := hide hRv
  clear e hrows hg hc2 hRv
  obtain ⟨i0, hi0, hz0, hz1, hz2⟩ := info_parts info3
  go_enter Try.func27, Try.ntmps27
  go_wp2_with fail
  refine (unhide CRV).mono ?_
  rintro e w1 ⟨back, rfl, hb1, hback⟩
  have HB1 := Lib.hid hb1; have HBK := Lib.hid hback
  clear hb1 hback CRV
  go_wp2_with fail
  go_loopw [19] (fun i wr => ∃ k : Nat, k ≤ n ∧ i = .int .i64 k ∧ Hid (Below w1.heap.size w1 wr ∧ ∀ a, a < k → ¬ G.Pk g g.length a a)) (fun i _ => n - (intOf i).toNat)
  case atStart => exact ⟨0, Nat.zero_le _, rfl, Below.refl _ _, fun a ha => absurd ha (by omega)⟩
  case round =>
    obtain ⟨k, hk, rfl, hI⟩ := hrel
    obtain ⟨hB, hno⟩ := hI.out
    have HNO := Lib.hid hno
    by_cases hlt : k < n
    · have hD := Dist_any back (G.rev g) k wr ((HBK.out.same (Same.of_below hB)).more hB.size) (by rw [G.rev_len]; have := HN.out; omega)
      have CD := hide hD
      have HB := Lib.hid hB
      clear hD hB hno hI
      go_wp2_with fail
      refine (unhide CD).mono ?_
      rintro e w2 ⟨p, o, rfl, hb2, hp, hdo⟩
      rw [G.rev_len] at hp
      rw [dist_dv (by have := HN.out; omega) hdo, HN.out] at hp
      obtain ⟨P, pc, rfl, hp1, hp2, hpe⟩ := hp.parts
      have hmp := maxLen_le hp2
      simp only [List.length_map, List.length_range] at hp1 ⊢
      have hB12 : Below w1.heap.size w1 w2 := HB.out.trans (hb2.mono HB.out.size)
      have hB02 : Below w.heap.size w w2 := HB1.out.trans (hB12.mono HB1.out.size)
      have hre := row_eq (g := g) (a := k) (by have := HN.out; omega)
      obtain ⟨ad, uu, rfl, hgb, hcell, hV⟩ := HG.out k _ hre
      obtain ⟨X, dd, rfl, hd1, hd2, hels⟩ := hV.parts
      have hmx := maxLen_le hd2
      have hcell' : w2.cell? (ad.add k) = some (.slice X (G.row g k).length dd) := ((Same.of_below hB02).cell (by rw [block_of_add]; exact hgb)).trans hcell
      have HX := Lib.hid hels
      obtain ⟨l, hl⟩ : ∃ l, l = G.row g k := ⟨_, rfl⟩
      rw [← hl] at hcell' hd1 HX
      have HL := Lib.hid hl
      have HPE := Lib.hid hpe; have HB12 := Lib.hid hB12; have HB02 := Lib.hid hB02
      clear hb2 hp hdo hp2 hpe CD HB hl hre hels hV hd2 hcell hB12 hB02
      go_wp2_with fail
      go_loop [30, 6] (fun i x => ∃ (j : Nat) (m : Int), j ≤ l.length ∧ -1 ≤ m ∧ m ≤ n ∧ i = .int .i64 j ∧ x = .int .i64 m ∧ Hid (G.Best (G.dv g k) (Among n l j) m)) (fun i _ => l.length - (intOf i).toNat)
      case atStart => exact ⟨0, -1, Nat.zero_le _, by omega, by omega, rfl, rfl, G.Best.start fun w h => by simp [Among] at h⟩
      case round =>
        clear hcell'
        obtain ⟨j, m, hj, hm0, hmn, rfl, rfl, HM⟩ := hrel
        by_cases hjl : j < l.length
        · obtain ⟨xd, rfl, hxb, hxc⟩ := HX.out j _ (List.getElem?_eq_getElem hjl)
          have hxc' : w2.cell? (xd.add j) = some (.int .i64 l[j]) := ((Same.of_below HB02.out).cell (by rw [block_of_add]; exact hxb)).trans hxc
          have hts : l.take (j + 1) = l.take j ++ [l[j]] := by rw [List.take_succ_eq_append_getElem hjl]
          obtain ⟨x, hx⟩ : ∃ x, l[j] = x := ⟨_, rfl⟩
          rw [hx] at hxc' hts
          have HTS := Lib.hid hts
          clear hx hxc hts
          by_cases hin : 0 ≤ x ∧ x < n
          · obtain ⟨y, rfl⟩ := ofNat_of hin.1
            have hyk : y < n := by omega
            have HIN := Lib.hid hin
            obtain ⟨pd, rfl, hpb, hpc⟩ := HPE.out y (G.dv g k y) (by simp [hyk])
            have hd1 := G.dv_low (g := g) k y
            have hd2 := G.dv_bound (g := g) (v := k) (b := y) (by have := HN.out; omega)
            obtain ⟨d, hd⟩ : ∃ d, G.dv g k y = d := ⟨_, rfl⟩
            rw [hd] at hpc hd1 hd2
            have hd3 : d ≤ n := by have := HN.out; omega
            have HD := Lib.hid hd
            clear hd hd2 hin
            by_cases h0 : 0 ≤ d
            · by_cases h1 : m < 0
              · go_wp2_with (go_at_call 31; refine (inside_yes _ _ _ _ _ HIN.out).mono ?_; rintro e w' ⟨rfl, rfl⟩)
                go_round
                case rel => exact ⟨j + 1, d, by omega, by omega, by omega, by go_num, rfl, by rw [← HD.out]; exact HM.out.take (among_yes HTS.out hyk) (by rw [HD.out]; exact h0) (by rw [HD.out]; exact .inl h1)⟩
                case measure => simp [intOf]; omega
              · by_cases h2 : d < m
                · go_wp2_with (go_at_call 31; refine (inside_yes _ _ _ _ _ HIN.out).mono ?_; rintro e w' ⟨rfl, rfl⟩)
                  go_round
                  case rel => exact ⟨j + 1, d, by omega, by omega, by omega, by go_num, rfl, by rw [← HD.out]; exact HM.out.take (among_yes HTS.out hyk) (by rw [HD.out]; exact h0) (by rw [HD.out]; exact .inr h2)⟩
                  case measure => simp [intOf]; omega
                · go_wp2_with (go_at_call 31; refine (inside_yes _ _ _ _ _ HIN.out).mono ?_; rintro e w' ⟨rfl, rfl⟩)
                  go_round
                  case rel => exact ⟨j + 1, m, by omega, by omega, by omega, by go_num, rfl, HM.out.leave (among_yes HTS.out hyk) (by rw [HD.out]; omega)⟩
                  case measure => simp [intOf]; omega
            · go_wp2_with (go_at_call 31; refine (inside_yes _ _ _ _ _ HIN.out).mono ?_; rintro e w' ⟨rfl, rfl⟩)
              go_round
              case rel => exact ⟨j + 1, m, by omega, by omega, by omega, by go_num, rfl, HM.out.leave (among_yes HTS.out hyk) (by rw [HD.out]; omega)⟩
              case measure => simp [intOf]; omega
          · have HIN := Lib.hid hin
            clear hin
            go_wp2_with (go_at_call 31; refine (inside_no _ _ _ _ _ HIN.out).mono ?_; rintro e w' ⟨rfl, rfl⟩)
            go_round
            case rel => exact ⟨j + 1, m, by omega, by omega, by omega, by go_num, rfl, HM.out.same (among_no HTS.out HIN.out)⟩
            case measure => simp [intOf]; omega
        · have hM : G.Best (G.dv g k) (fun w => w < g.length ∧ G.ed g k w = true) m := HM.out.same (fun w => by rw [← among_all HL.out (j := j) (by omega) w, HN.out])
          have HMM := Lib.hid hM
          clear hM HM
          by_cases hm : m < 0
          · go_wp2_with fail
            go_roundw
            case rel => exact ⟨k + 1, by omega, by go_num, HB12.out, fun a ha hp => by
              by_cases e : a = k
              · subst e
                obtain ⟨x, hx, hx1, hx2⟩ := (G.on_cycle (by have := HN.out; omega)).1 hp
                rcases HMM.out with ⟨_, h2⟩ | ⟨h1, _⟩
                · have := h2 x ⟨hx, hx1⟩; omega
                · omega
              · exact HNO.out a (by omega) hp⟩
            case measure => simp [intOf]; omega
          · obtain ⟨mm, rfl⟩ := ofNat_of (show 0 ≤ m by omega)
            have hex : ∃ b, G.SucD g k k mm b := by
              rcases HMM.out with ⟨h1, _⟩ | ⟨_, ⟨x, ⟨hx, hx1⟩, hx2⟩, _⟩
              · omega
              · exact ⟨x, hx, hx1, hx2⟩
            have HEX := Lib.hid hex
            clear hex
            go_wp2_with fail
            obtain ⟨w3, hw3⟩ : ∃ w3, w3 = w2.alloc (.cells #[.int .i64 k] 3) := ⟨_, rfl⟩
            have hS : w3.ownsRow w2.heap.size 3 1 (.slice (some ⟨w2.heap.size, 0, none⟩) 1 1) 1 ((G.ints [k]).map (.int .i64)) ∧ Below w2.heap.size w2 w3 := by
              rw [hw3]; exact ⟨World.ownsRow_lit w2 #[.int .i64 k] 1 (Nat.le_refl _) (by simp [maxLen]) (by simp), (Below.refl _ _).alloc (Nat.le_refl _) _⟩
            have HS := Lib.hid hS
            rw [← hw3]
            clear hS hw3
            obtain ⟨B2, hB2⟩ : ∃ B2, w2.heap.size = B2 := ⟨_, rfl⟩
            rw [hB2] at HS HPE ⊢
            have HB2' := Lib.hid hB2
            clear hB2
            go_loopw [11, 9, 10] (fun x o y wr => ∃ (lf : Int) (a g1 q c : Nat), -1 ≤ lf ∧ lf ≤ n ∧ x = .int .i64 lf ∧ o = .slice (some ⟨g1, 0, none⟩) q c ∧ y = .int .i64 a ∧ a < n ∧ q ≤ n + 1 ∧ q ≤ c ∧ c ≤ 9223372036854775807 ∧
              Hid (∃ r, q = r.length + 1 ∧ r.length + lf.toNat = mm ∧ wr.ownsRow B2 3 1 (.slice (some ⟨g1, 0, none⟩) q c) q ((G.ints (k :: r)).map (.int .i64)) ∧ Below B2 w2 wr ∧ (0 ≤ lf → ∃ b, G.SucD g k a lf b) ∧ ∀ rest, G.Pth g k lf.toNat a rest → G.Pth g k mm k (r ++ rest))) (fun x _ _ _ => (intOf x + 1).toNat)
            case atStart => exact ⟨mm, k, B2, 1, 1, by omega, by omega, rfl, rfl, rfl, hlt, by omega, Nat.le_refl _, by omega, [], rfl, by simp, HS.out.1, HS.out.2, fun _ => HEX.out, fun rest h => h⟩
            case round =>
              have HMN := Lib.hid hmn
              clear HS HEX hmn
              obtain ⟨lf, a, g1, q, c1, hlf0, hlfn, rfl, rfl, rfl, han, hqn, hqc, hcm, hI⟩ := hrel
              obtain ⟨r, hq, hrl, hown, hB, hex, hpth⟩ := hI.out
              clear hI
              have HQ := Lib.hid hq; have HRL := Lib.hid hrl; have HOW := Lib.hid hown; have HB := Lib.hid hB; have HEX := Lib.hid hex; have HPT := Lib.hid hpth
              have hsz := hB.size
              clear hq hrl hown hB hex hpth
              by_cases hl0 : 0 ≤ lf
              · have hB0r : Below w.heap.size w wr := HB02.out.trans (HB.out.mono (by have := HB02.out.size; have := HB2'.out; omega))
                have hre := row_eq (g := g) (a := a) (by have := HN.out; omega)
                obtain ⟨ad', uu, hae, hgb, hcell, hV⟩ := HG.out a _ hre
                injection hae with hae
                subst hae
                obtain ⟨Y, yd, rfl, he1, he2, hels⟩ := hV.parts
                have hmy := maxLen_le he2
                have hcell' : wr.cell? (ad.add a) = some (.slice Y (G.row g a).length yd) := ((Same.of_below hB0r).cell (by rw [block_of_add]; exact hgb)).trans hcell
                have HY := Lib.hid hels
                obtain ⟨l2, hl2⟩ : ∃ l2, l2 = G.row g a := ⟨_, rfl⟩
                rw [← hl2] at hcell' he1 HY
                have HL2 := Lib.hid hl2; have HB0r := Lib.hid hB0r
                clear hl2 hre hels hV he2 hcell hB0r
                go_wp2_with fail
                go_loop [76, 12] (fun i x => ∃ (j : Nat) (y : Int), j ≤ l2.length ∧ -1 ≤ y ∧ y < n ∧ i = .int .i64 j ∧ x = .int .i64 y ∧ Hid (G.Lst (fun w => Among n l2 j w ∧ G.dv g k w = lf) y)) (fun i _ => l2.length - (intOf i).toNat)
                case atStart => exact ⟨0, -1, Nat.zero_le _, by omega, by omega, rfl, rfl, .inl ⟨rfl, fun w h => by have := h.1.2; simp at this⟩⟩
                case round =>
                  clear hcell'
                  obtain ⟨j, y, hj, hy0, hyn, rfl, rfl, HX2⟩ := hrel
                  by_cases hjl : j < l2.length
                  · obtain ⟨xd, rfl, hxb, hxc⟩ := HY.out j _ (List.getElem?_eq_getElem hjl)
                    have hxc' : wr.cell? (xd.add j) = some (.int .i64 l2[j]) := ((Same.of_below HB0r.out).cell (by rw [block_of_add]; exact hxb)).trans hxc
                    have hts : l2.take (j + 1) = l2.take j ++ [l2[j]] := by rw [List.take_succ_eq_append_getElem hjl]
                    obtain ⟨x, hx⟩ : ∃ x, l2[j] = x := ⟨_, rfl⟩
                    rw [hx] at hxc' hts
                    have HTS := Lib.hid hts
                    clear hx hxc hts
                    by_cases hin : 0 ≤ x ∧ x < n
                    · obtain ⟨z, rfl⟩ := ofNat_of hin.1
                      have hzn : z < n := by omega
                      have HIN := Lib.hid hin
                      obtain ⟨pd, rfl, hpb, hpc⟩ := HPE.out z (G.dv g k z) (by simp [hzn])
                      have hpc' : wr.cell? (pd.add z) = some (.int .i64 (G.dv g k z)) := ((Same.of_below HB.out).cell (by rw [block_of_add]; exact hpb)).trans hpc
                      obtain ⟨d, hd⟩ : ∃ d, G.dv g k z = d := ⟨_, rfl⟩
                      rw [hd] at hpc'
                      have HD := Lib.hid hd
                      clear hd hpc hin
                      by_cases hdl : d = lf
                      · have b1 : (d == lf) = true := by simpa using hdl
                        have HDL := Lib.hid hdl
                        clear hdl
                        by_cases h1 : y < 0
                        · go_wp2_with (go_at_call 31; refine (inside_yes _ _ _ _ _ HIN.out).mono ?_; rintro e w' ⟨rfl, rfl⟩)
                          go_round
                          case rel => exact ⟨j + 1, z, by omega, by omega, by omega, by go_num, rfl, HX2.out.take (far_yes (among_yes HTS.out hzn) (by rw [HD.out]; exact HDL.out)) (.inl h1)⟩
                          case measure => simp [intOf]; omega
                        · by_cases h2 : (z : Int) < y
                          · go_wp2_with (go_at_call 31; refine (inside_yes _ _ _ _ _ HIN.out).mono ?_; rintro e w' ⟨rfl, rfl⟩)
                            go_round
                            case rel => exact ⟨j + 1, z, by omega, by omega, by omega, by go_num, rfl, HX2.out.take (far_yes (among_yes HTS.out hzn) (by rw [HD.out]; exact HDL.out)) (.inr h2)⟩
                            case measure => simp [intOf]; omega
                          · go_wp2_with (go_at_call 31; refine (inside_yes _ _ _ _ _ HIN.out).mono ?_; rintro e w' ⟨rfl, rfl⟩)
                            go_round
                            case rel => exact ⟨j + 1, y, by omega, by omega, by omega, by go_num, rfl, HX2.out.leave (far_yes (among_yes HTS.out hzn) (by rw [HD.out]; exact HDL.out)) (by omega)⟩
                            case measure => simp [intOf]; omega
                      · have b1 : (d == lf) = false := by simpa using hdl
                        have HDL := Lib.hid hdl
                        clear hdl
                        go_wp2_with (go_at_call 31; refine (inside_yes _ _ _ _ _ HIN.out).mono ?_; rintro e w' ⟨rfl, rfl⟩)
                        go_round
                        case rel => exact ⟨j + 1, y, by omega, by omega, by omega, by go_num, rfl, HX2.out.same (far_no (among_yes HTS.out hzn) (by rw [HD.out]; exact HDL.out))⟩
                        case measure => simp [intOf]; omega
                    · have HIN := Lib.hid hin
                      clear hin
                      go_wp2_with (go_at_call 31; refine (inside_no _ _ _ _ _ HIN.out).mono ?_; rintro e w' ⟨rfl, rfl⟩)
                      go_round
                      case rel => exact ⟨j + 1, y, by omega, by omega, by omega, by go_num, rfl, HX2.out.same (fun w => by rw [among_no HTS.out HIN.out w])⟩
                      case measure => simp [intOf]; omega
                  · have hX : G.Lst (G.SucD g k a lf) y := HX2.out.same (fun w => by
                      have := among_all HL2.out (j := j) (by omega) w
                      rw [HN.out] at this
                      rw [this]
                      unfold G.SucD
                      rw [HN.out, and_assoc])
                    obtain ⟨b, hyb, hsb⟩ : ∃ b : Nat, y = b ∧ G.SucD g k a lf b := by
                      rcases hX with ⟨_, h2⟩ | ⟨b, h1, h2, _⟩
                      · obtain ⟨b, hb⟩ := HEX.out hl0; exact absurd hb (h2 b)
                      · exact ⟨b, h1, h2⟩
                    subst hyb
                    have HLB := Lib.hid hX; have HSB := Lib.hid hsb
                    clear hX hsb HX2
                    by_cases hlp : 0 < lf
                    · obtain ⟨l', rfl⟩ : ∃ l' : Nat, lf = (l' : Int) + 1 := ⟨(lf - 1).toNat, by omega⟩
                      have hr0 : r.length + (l' + 1) = mm := by have := HRL.out; omega
                      have hqq : q ≤ n := by have := HQ.out; have := HMN.out; omega
                      go_wp2_with (first
                        | (at_builtin; refine wpList_append_lies _ rfl (.tmp 105) (.tmp 107) _ rfl B2 3 i0 _ 1 8 Try.underlying23 hi0 hz0 hz1 hz2 rfl (by omega) (.slice (some ⟨g1, 0, none⟩) q c1) q _ rfl (HOW.out.alloc _) ⟨wr.heap.size, 0, none⟩ 1 1 [.int .i64 b] rfl rfl (cell_one_new _ _ _) (fun u hu => by simp at hu; subst hu; rfl) (by omega) (by unfold maxLen; omega) (by omega) (by simp; have := HB2'.out; omega) (wr.heap.size + 1) (by simp) ?_))
                      intro g2 cap w4 h1 h2 h3 h4
                      have HF := Lib.hid (And.intro h1 h2)
                      have hcap := (Sl.of_own h1)
                      have hcap1 : q + 1 ≤ cap ∧ cap ≤ 9223372036854775807 := by
                        obtain ⟨_, _, e, k1, k2, _⟩ := hcap
                        injection e with _ e2 e3
                        subst e3
                        have := h1.1
                        exact ⟨by omega, maxLen_le k2⟩
                      clear h1 h2 h3 h4 hcap
                      go_wp2_with fail
                      go_roundw
                      case rel =>
                        obtain ⟨h1, h2⟩ := HF.out
                        have e1 : ((l' : Int) + 1).toNat = l' + 1 := by omega
                        refine ⟨(l' : Int), b, g2, q + 1, cap, by omega, by omega, by go_num, rfl, rfl, by have := HSB.out.1; have := HN.out; omega, by omega, hcap1.1, hcap1.2, r ++ [b], by simp [HQ.out], by simp; omega, ?_, ?_, fun _ => ?_, ?_⟩
                        · simpa [G.ints] using h1
                        · exact (HB.out.alloc (by have := HB2'.out; omega) _).grown h2 (by simp; have := HB2'.out; omega) (fun q hq => (HOW.out.lt q hq).1)
                        · obtain ⟨c, k1, k2, k3⟩ := G.dv_next HSB.out.1 HSB.out.2.2
                          exact ⟨c, k1, k2, k3⟩
                        · have hp := HPT.out
                          rw [e1] at hp
                          rw [Int.toNat_natCast]
                          exact G.Pth.snoc hp HLB.out
                      case measure => simp [intOf]; omega
                    · obtain rfl : lf = 0 := by omega
                      go_wp2_with fail
                      go_roundw
                      case rel =>
                        have hp : ∀ rest, G.Pth g k 0 a rest → G.Pth g k mm k (r ++ rest) := HPT.out
                        refine ⟨-1, b, g1, q, c1, by omega, by omega, rfl, rfl, rfl, by have := HSB.out.1; have := HN.out; omega, hqn, hqc, hcm, r, HQ.out, by have := HRL.out; simpa using this, HOW.out, HB.out, fun h => absurd h (by omega), fun rest h => ?_⟩
                        have h' : G.Pth g k 0 b rest := h
                        cases h'
                        exact hp [] (.nil a)
                      case measure => simp [intOf]
              · obtain rfl : lf = -1 := by omega
                go_wp2_with fail
                go_ret
                have hp : ∀ rest, G.Pth g k 0 a rest → G.Pth g k mm k (r ++ rest) := HPT.out
                have h0 := hp [] (.nil a)
                rw [List.append_nil] at h0
                refine ⟨_, G.ints (k :: r), rfl, HB02.out.trans (HB.out.mono (by have := HB02.out.size; have := HB2'.out; omega)), Sl.of_own HOW.out, .inr ⟨k, mm, r, by have := HN.out; omega, ?_, HNO.out, HMM.out, h0, rfl⟩⟩
                have hkg : k < g.length := by have := HN.out; omega
                rcases HMM.out with ⟨h1, _⟩ | ⟨_, ⟨x, ⟨hx, hx1⟩, hx2⟩, _⟩
                · omega
                · exact (G.on_cycle hkg).2 ⟨x, hx, hx1, by rw [hx2]; omega⟩
    · have HB := Lib.hid hB
      clear hB hno hI
      go_wp2_with fail
      go_ret
      exact ⟨_, [], rfl, HB1.out.trans (HB.out.mono HB1.out.size), Sl.nil, .inl ⟨rfl, fun v hv => HNO.out v (by have := HN.out; omega)⟩⟩
end Go.Proofs.Ytiebfnchimfjiaa
