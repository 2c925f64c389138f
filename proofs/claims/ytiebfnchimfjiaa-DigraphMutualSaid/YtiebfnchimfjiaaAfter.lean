/- after: the walk. -/
import Derived.Test.YtiebfnchimfjiaaRefTopo
import Derived.Test.YtiebfnchimfjiaaLawP
namespace Go.Proofs.Ytiebfnchimfjiaa
open Go.RowKit Go.Deep

/-- What place holds after i nodes of the order. -/
def plc (r : List Nat) (i b : Nat) : Int := if r.idxOf b < i then (r.idxOf b : Int) + 1 else 0
theorem plc_step {r : List Nat} (hn : r.Nodup) {i : Nat} (hi : i < r.length) (b : Nat) : plc r (i + 1) b = if b = r[i] then (i : Int) + 1 else plc r i b := by
  have hx : r.idxOf r[i] = i := by
    have hm := List.idxOf_lt_length_of_mem (List.getElem_mem hi)
    exact G.nodup_inj hn hm hi (List.getElem_idxOf hm)
  unfold plc
  by_cases e : b = r[i]
  · rw [if_pos e, e, hx, if_pos (Nat.lt_succ_self _)]
  · rw [if_neg e]
    have : r.idxOf b ≠ i := by
      intro h
      have hl : r.idxOf b < r.length := by omega
      have := List.getElem_idxOf hl
      exact e (by rw [← this]; simp only [h])
    by_cases h1 : r.idxOf b < i
    · rw [if_pos h1, if_pos (by omega)]
    · rw [if_neg h1, if_neg (by omega)]
theorem plc_new {r : List Nat} (hn : r.Nodup) {i : Nat} (hi : i < r.length) : plc r i r[i] = 0 := by
  have hx : r.idxOf r[i] = i := by
    have hm := List.idxOf_lt_length_of_mem (List.getElem_mem hi)
    exact G.nodup_inj hn hm hi (List.getElem_idxOf hm)
  unfold plc; rw [hx, if_neg (by omega)]
theorem plc_lt {g : List (List Int)} {r : List Nat} (hg : G.Good g r) (hl : r.length = g.length) {a b : Nat} (ha : a < g.length) (hb : b < g.length) (he : G.ed g a b = true) : plc r g.length a < plc r g.length b := by
  have ha' := List.idxOf_lt_length_of_mem (G.all_in hg.nodup hl hg.lt ha)
  have hb' := List.idxOf_lt_length_of_mem (G.all_in hg.nodup hl hg.lt hb)
  have h := G.before_of hg (a := a) (b := b) (i := r.idxOf a) (j := r.idxOf b) (by rw [List.getElem?_eq_getElem ha', List.getElem_idxOf ha']) (by rw [List.getElem?_eq_getElem hb', List.getElem_idxOf hb']) ha he
  unfold plc
  rw [if_pos (by omega), if_pos (by omega)]; omega

set_option maxHeartbeats 2000000 in
theorem After_any (u v : Value) (g : List (List Int)) (r : List Nat) (w : World) (hg : Rows2 w w.heap.size u g) (hr : Ints w w.heap.size v (G.ints r)) (hn : g.length ≤ 1000000)
    (hgood : G.Good g r) (hlen : r.length = g.length) :
    Calls Try.prog 29 #[u, v] w fun e w' => e = .returned (.bool true) ∧ Below w.heap.size w w' := by
  obtain ⟨A, c, rfl, hc1, hc2, hrows⟩ := hg.parts
  have hm1 := maxLen_le hc2
  obtain ⟨X, d, rfl, hd1, hd2, hels⟩ := hr.parts
  have hmx := maxLen_le hd2
  have hil : (G.ints r).length = r.length := by simp [G.ints]
  rw [hil] at hd1 ⊢
  obtain ⟨n, e⟩ : ∃ n, g.length = n := ⟨_, rfl⟩
  have HN := Lib.hid e
  rw [hlen] at hd1 ⊢
  rw [e] at hn hc1 hd1 ⊢
  have HG := Lib.hid hrows; have HE := Lib.hid hels; have HGD := Lib.hid hgood; have HLEN := Lib.hid hlen
  clear e hrows hg hc2 hels hr hd2 hgood hlen hil
  have hmk := fun W => run_make_row' (P := Try.prog) 23 3 (.int .i64 0) 8 Try.underlying23 info3 rfl .i64 .i64 n (by omega) (by omega) W
  go_enter Try.func29, Try.ntmps29
  go_wp2_with fail
  obtain ⟨w1, hw1⟩ : ∃ w1, w1 = w.alloc (.cells (madeCells #[.int .i64 0] n) 3) := ⟨_, rfl⟩
  have hS : RowI w1 w.heap.size n (plc r 0) ∧ Below w.heap.size w w1 := by
    rw [hw1]; exact ⟨(RowF.made w 3 (.int .i64 0) n).congr fun b _ => by simp [plc], (Below.refl _ _).alloc (Nat.le_refl _) _⟩
  have HS := Lib.hid hS
  rw [← hw1]
  clear hS hw1 hmk
  go_loopw [6] (fun i wr => ∃ k : Nat, k ≤ n ∧ i = .int .i64 k ∧ Hid (RowI wr w.heap.size n (plc r k) ∧ Below w.heap.size w wr)) (fun i _ => n - (intOf i).toNat)
  case atStart => exact ⟨0, Nat.zero_le _, rfl, HS.out⟩
  case round =>
    clear HS
    obtain ⟨k, hk, rfl, hI⟩ := hrel
    obtain ⟨hR, hB⟩ := hI.out
    by_cases hlt : k < n
    · have hkr : k < r.length := by have := HN.out; have := HLEN.out; omega
      obtain ⟨xd, rfl, hxb, hxc⟩ := HE.out k (r[k] : Int) (by simp [G.ints, hkr])
      have hxc' : wr.cell? (xd.add k) = some (.int .i64 (r[k] : Int)) := ((Same.of_below hB).cell (by rw [block_of_add]; exact hxb)).trans hxc
      have hxn : r[k] < n := by have := HGD.out.lt _ (List.getElem_mem hkr); have := HN.out; omega
      have hpl := plc_new HGD.out.nodup hkr
      have hst := plc_step HGD.out.nodup hkr
      obtain ⟨x, hx⟩ : ∃ x, r[k] = x := ⟨_, rfl⟩
      rw [hx] at hxc' hxn hpl
      simp only [hx] at hst
      have hget := RowF.get hR hxn
      rw [hpl] at hget
      have hfr := RowF.free hR x
      have HR := Lib.hid hR; have HB := Lib.hid hB; have HST := Lib.hid hst
      have d1 : decide ((x : Int) < 0) = false := by simp
      have d2 : decide ((n : Int) ≤ (x : Int)) = false := by simp; omega
      have d3 : decide (n ≤ x) = false := by simp; omega
      clear hR hB hI hst hpl hx hxc
      go_wp2_with fail
      go_roundw
      case rel => exact ⟨k + 1, by omega, by go_num, HR.out.store x ((k : Int) + 1) (fun b _ => HST.out b), HB.out.setCell (Nat.le_refl _) _⟩
      case measure => simp [intOf]; omega
    · obtain rfl : k = n := by omega
      have HR := Lib.hid hR; have HB := Lib.hid hB
      clear hR hB hI
      obtain ⟨wo, rfl⟩ : ∃ wo : World, wo = wr := ⟨_, rfl⟩
      go_wp2_with fail
      go_loopw [7] (fun i w2 => ∃ a : Nat, a ≤ k ∧ i = .int .i64 a ∧ Hid (∃ q, w2 = wo.drewN q)) (fun i _ => k - (intOf i).toNat)
      case atStart => exact ⟨0, Nat.zero_le _, rfl, 0, rfl⟩
      case round =>
        obtain ⟨a, ha, rfl, hI⟩ := hrel
        obtain ⟨q, hq⟩ := hI.out
        clear hI
        subst hq
        by_cases han : a < k
        · have hre := row_eq (g := g) (a := a) (by have := HN.out; omega)
          obtain ⟨ad, uu, rfl, hgb, hcell, hV⟩ := HG.out a _ hre
          obtain ⟨Y, yd, rfl, he1, he2, hels⟩ := hV.parts
          have hmy := maxLen_le he2
          have hcell' : wo.cell? (ad.add a) = some (.slice Y (G.row g a).length yd) := ((Same.of_below HB.out).cell (by rw [block_of_add]; exact hgb)).trans hcell
          have HY := Lib.hid hels
          obtain ⟨l, hl⟩ : ∃ l, l = G.row g a := ⟨_, rfl⟩
          rw [← hl] at hcell' he1 HY
          have HL := Lib.hid hl
          clear hl hre hels hV he2 hcell
          go_wp2_with fail
          go_loopw [8] (fun i w2 => ∃ j : Nat, j ≤ l.length ∧ i = .int .i64 j ∧ Hid (∃ q, w2 = wo.drewN q)) (fun i _ => l.length - (intOf i).toNat)
          case atStart => exact ⟨0, Nat.zero_le _, rfl, q, rfl⟩
          case round =>
            obtain ⟨j, hj, rfl, hI⟩ := hrel
            obtain ⟨q2, hq2⟩ := hI.out
            clear hI
            subst hq2
            by_cases hjl : j < l.length
            · obtain ⟨xd, rfl, hxb, hxc⟩ := HY.out j _ (List.getElem?_eq_getElem hjl)
              have hxc' : wo.cell? (xd.add j) = some (.int .i64 l[j]) := ((Same.of_below HB.out).cell (by rw [block_of_add]; exact hxb)).trans hxc
              have hmem : l[j] ∈ G.row g a := by rw [← HL.out]; exact List.getElem_mem hjl
              obtain ⟨x, hx⟩ : ∃ x, l[j] = x := ⟨_, rfl⟩
              rw [hx] at hxc' hmem
              have HM := Lib.hid hmem
              clear hx hmem hxc
              by_cases h0 : 0 ≤ x
              · by_cases h1 : x < k
                · obtain ⟨y, rfl⟩ := ofNat_of h0
                  have hyk : y < k := by omega
                  have hga := RowF.get HR.out han
                  have hgy := RowF.get HR.out hyk
                  have hlt2 := plc_lt HGD.out HLEN.out (a := a) (b := y) (by have := HN.out; omega) (by have := HN.out; omega) (by unfold G.ed; simpa using HM.out)
                  rw [HN.out] at hlt2
                  obtain ⟨pa, hpa⟩ : ∃ z, plc r k a = z := ⟨_, rfl⟩
                  obtain ⟨py, hpy⟩ : ∃ z, plc r k y = z := ⟨_, rfl⟩
                  rw [hpa] at hga hlt2
                  rw [hpy] at hgy hlt2
                  have d1 : decide (0 ≤ (y : Int)) = true := by simp
                  have d2 : decide ((y : Int) < (k : Int)) = true := by simpa using h1
                  have d3 : decide (py ≤ pa) = false := by simpa using hlt2
                  have d4 : decide (y < k) = true := by simpa using hyk
                  clear hpa hpy h0
                  go_wp2_with fail
                  go_quiet (fail)
                  go_wp2_with fail
                  go_roundw
                  case rel => exact ⟨j + 1, by omega, by go_num, _, rfl⟩
                  case measure => simp [intOf]; omega
                · have d1 : decide (0 ≤ x) = true := by simpa using h0
                  have d2 : decide (x < (k : Int)) = false := by simpa using h1
                  go_wp2_with fail
                  go_quiet (fail)
                  go_wp2_with fail
                  go_roundw
                  case rel => exact ⟨j + 1, by omega, by go_num, _, rfl⟩
                  case measure => simp [intOf]; omega
              · have d1 : decide (0 ≤ x) = false := by simpa using h0
                go_wp2_with fail
                go_quiet (fail)
                go_wp2_with fail
                go_roundw
                case rel => exact ⟨j + 1, by omega, by go_num, _, rfl⟩
                case measure => simp [intOf]; omega
            · go_wp2_with fail
              go_roundw
              case rel => exact ⟨a + 1, by omega, by go_num, _, rfl⟩
              case measure => simp [intOf]; omega
        · go_wp2_with fail
          go_ret
          exact ⟨rfl, below_drewN HB.out q⟩
end Go.Proofs.Ytiebfnchimfjiaa
