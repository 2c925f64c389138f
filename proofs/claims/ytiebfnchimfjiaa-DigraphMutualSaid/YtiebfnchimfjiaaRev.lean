/- The reversed graph: both walks. -/
import Derived.Test.YtiebfnchimfjiaaOwnM
import Derived.Test.YtiebfnchimfjiaaPaths
import Derived.Test.YtiebfnchimfjiaaCompP
namespace Go.Proofs.Ytiebfnchimfjiaa
open Go.RowKit Go.Deep



def RevPost (w : World) (g : List (List Int)) (e : Ending) (w' : World) : Prop :=
  ∃ v, e = .returned v ∧ Below w.heap.size w w' ∧ Rows2 w' w'.heap.size v (G.rev g)

def refRows (g : List (List Int)) (n i j b : Nat) : List Int := if b < i then G.preds g b n else if b = i then G.preds g b j else []

set_option maxHeartbeats 1000000 in
theorem RefReverse_any (v : Value) (g : List (List Int)) (w : World) (hg : Rows2 w w.heap.size v g) (hn : g.length ≤ 1000000) :
    Calls Try.prog 19 #[v] w (RevPost w g) := by
  obtain ⟨A, c, rfl, hc1, hc2, hrows⟩ := hg.parts
  have hm1 := maxLen_le hc2
  obtain ⟨n, e⟩ : ∃ n, g.length = n := ⟨_, rfl⟩
  have HN := Lib.hid e
  rw [e] at hn hc1 hg ⊢
  have HG := Lib.hid hg
  clear e hrows hg hc2
  have hmk := fun W => run_make_row' (P := Try.prog) 22 23 (.slice none 0 0) 24 Try.underlying22 info23 rfl .i64 .i64 n (by omega) (by omega) W
  obtain ⟨i0, hi0, hz0, hz1, hz2⟩ := info_parts info3
  go_enter Try.func19, Try.ntmps19
  go_wp2_with fail
  obtain ⟨w1, hw1⟩ : ∃ w1, w1 = w.alloc (.cells (madeCells #[.slice none 0 0] n) 23) := ⟨_, rfl⟩
  have hS : ∃ vals, OwnM w w1 w.heap.size n (refRows g n 0 0) vals := by
    rw [hw1]; exact ⟨_, (OwnM.start w n).congr fun b _ => by simp [refRows, G.preds]⟩
  have HS := Lib.hid hS
  rw [← hw1]
  clear hS hw1 hmk
  go_loopw [4] (fun i wr => ∃ k : Nat, k ≤ n ∧ i = .int .i64 k ∧ Hid (∃ vals, OwnM w wr w.heap.size n (refRows g n k 0) vals)) (fun i _ => n - (intOf i).toNat)
  case atStart => exact ⟨0, Nat.zero_le _, rfl, HS.out⟩
  case round =>
    clear HS
    obtain ⟨k, hk, rfl, hI⟩ := hrel
    by_cases hlt : k < n
    · go_wp2_with fail
      go_loopw [5] (fun i wr => ∃ j : Nat, j ≤ n ∧ i = .int .i64 j ∧ Hid (∃ vals, OwnM w wr w.heap.size n (refRows g n k j) vals)) (fun i _ => n - (intOf i).toNat)
      case atStart => exact ⟨0, Nat.zero_le _, rfl, hI.out⟩
      case round =>
        clear hI
        obtain ⟨j, hj, rfl, hI⟩ := hrel
        obtain ⟨vals, hO⟩ := hI.out
        clear hI
        by_cases hjn : j < n
        · have con := edge_row _ g j k wr w.heap.size (HG.out.same (Same.of_below hO.below)) (by have := HN.out; omega)
          have CON := hide con
          clear con
          cases he : decide ((k : Int) ∈ G.row g j) with
          | false =>
            rw [he] at CON
            have HE := Lib.hid he
            clear he
            have HO := Lib.hid hO
            clear hO
            go_wp2_with (go_at_call 33; refine (unhide CON).mono ?_; rintro e w' ⟨rfl, rfl⟩)
            go_roundw
            case rel =>
              refine ⟨j + 1, by omega, by go_num, vals, HO.out.congr fun b _ => ?_⟩
              unfold refRows
              by_cases e : b = k
              · subst e; rw [if_neg (by omega), if_pos rfl, if_neg (by omega), if_pos rfl, G.preds_no (by have := HE.out; unfold G.ed; exact this)]
              · simp [e]
            case measure => simp [intOf]; omega
          | true =>
            rw [he] at CON
            have HE := Lib.hid he
            clear he
            have hlen : (refRows g n k j k).length ≤ n := by
              unfold refRows; rw [if_neg (by omega), if_pos rfl]; have := G.preds_len g k j; omega
            have hget := hO.outer.get hlt
            have hfr := hO.outer.free k
            have hown := hO.own k hlt
            obtain ⟨A', c', hv, hca, hcb, _⟩ := hO.form hlt
            rw [hv] at hget hown
            have hsz := hO.outer.lt
            obtain ⟨L, hL⟩ : ∃ L, L = (refRows g n k j k).length := ⟨_, rfl⟩
            rw [← hL] at hget hown hcb hlen hv
            have HL := Lib.hid hL
            have HV := Lib.hid hv
            have HO := Lib.hid hO
            have HOW := Lib.hid hown
            clear hO hv hL hown
            go_wp2_with (first
              | (go_at_call 33; refine (unhide CON).mono ?_; rintro e w' ⟨rfl, rfl⟩)
              | (at_builtin; refine wpList_append_lies _ rfl (.tmp 30) (.tmp 32) _ rfl (w.heap.size + 1) 3 i0 _ 1 8 Try.underlying23 hi0 hz0 hz1 hz2 rfl (by omega) (.slice A' L c') L _ rfl (HOW.out.alloc _) ⟨wr.heap.size, 0, none⟩ 1 1 [.int .i64 j] rfl rfl (cell_one_new _ _ _) (fun u hu => by simp at hu; subst hu; rfl) (by omega) (by unfold maxLen; omega) (by omega) (by simp; omega) (wr.heap.size + 1) (by simp) ?_))
            intro g2 cap w2 h1 h2 h3 h4
            have kc : w2.cell? ⟨w.heap.size, k, none⟩ = some (.slice A' L c') :=
              (h2.cell_far ⟨w.heap.size, k, none⟩ (by simp; omega) (fun e => by have := (HOW.out.lt _ e.symm).1; simp at this; omega)).trans ((World.cell?_alloc_lt _ _ _ hsz).trans hget)
            have kf : w2.frozen? ⟨w.heap.size, k, none⟩ = false :=
              (h2.frozen_far ⟨w.heap.size, k, none⟩ (by simp; omega) (fun e => by have := (HOW.out.lt _ e.symm).1; simp at this; omega)).trans ((World.frozen?_alloc_past _ _ _ hsz).trans hfr)
            have HF := Lib.hid (And.intro h1 (And.intro h2 h3))
            clear h1 h2 h3 hget hfr
            go_wp2_with fail
            go_roundw
            case rel =>
              obtain ⟨h1, h2, h3⟩ := HF.out
              rw [HL.out] at h1
              have hst := HO.out.store (b := k) (x := j) (o := .cells #[.int .i64 j] 3) hlt h1 (by rw [HV.out]; exact h2) (by rw [HV.out, World.size_alloc]; exact h3)
              rw [← HL.out] at hst
              refine ⟨j + 1, by omega, by go_num, _, hst.congr fun b _ => ?_⟩
              unfold refRows
              by_cases e : b = k
              · subst e; rw [if_pos rfl, if_neg (by omega), if_pos rfl, if_neg (by omega), if_pos rfl, G.preds_yes (by have := HE.out; unfold G.ed; exact this)]
              · simp [e]
            case measure => simp [intOf]; omega
        · go_wp2_with fail
          go_roundw
          case rel =>
            refine ⟨k + 1, by omega, by go_num, vals, hO.congr fun b _ => ?_⟩
            obtain rfl : j = n := by omega
            unfold refRows
            by_cases e : b < k
            · rw [if_pos e, if_pos (by omega)]
            · by_cases e' : b = k
              · subst e'; rw [if_neg (by omega), if_pos rfl, if_pos (by omega)]
              · rw [if_neg e, if_neg e', if_neg (by omega)]; split
                · simp [G.preds]
                · rfl
          case measure => simp [intOf]; omega
    · go_wp2_with fail
      go_ret
      obtain ⟨vals, hO⟩ := hI.out
      refine ⟨_, rfl, hO.below, ?_⟩
      have := (hO.congr (rows' := fun b => G.preds g b n) fun b hb => by unfold refRows; rw [if_pos (by omega)]).reads (by unfold maxLen; omega)
      unfold G.rev
      rw [HN.out]; exact this

def implRows (g : List (List Int)) (v j b : Nat) : List Int := G.preds g b v ++ if (b : Int) ∈ (G.row g v).take j then [(v : Int)] else []
theorem implRows_len (g : List (List Int)) (v j b : Nat) : (implRows g v j b).length ≤ v + 1 := by
  unfold implRows
  have := G.preds_len g b v
  split <;> simp <;> omega
theorem implRows_same {g : List (List Int)} {v j b : Nat} {x : Int} (hx : (G.row g v)[j]? = some x) (h : x = b → (b : Int) ∈ (G.row g v).take j) : implRows g v (j + 1) b = implRows g v j b := by
  unfold implRows
  rw [List.take_add_one, hx]
  by_cases e : (b : Int) ∈ (G.row g v).take j
  · simp [e]
  · have : x ≠ b := fun h' => e (h h')
    simp [e, Ne.symm this]
theorem implRows_add {g : List (List Int)} {v j b : Nat} (hx : (G.row g v)[j]? = some (b : Int)) (h : ¬ (b : Int) ∈ (G.row g v).take j) : implRows g v (j + 1) b = implRows g v j b ++ [(v : Int)] := by
  unfold implRows
  rw [List.take_add_one, hx]
  simp [h]
theorem implRows_next (g : List (List Int)) (v b : Nat) : implRows g (v + 1) 0 b = implRows g v (G.row g v).length b := by
  unfold implRows
  rw [List.take_length]
  by_cases e : (b : Int) ∈ G.row g v
  · rw [G.preds_yes (by simpa [G.ed] using e)]; simp [e]
  · rw [G.preds_no (by simpa [G.ed] using e)]; simp [e]

set_option maxHeartbeats 2000000 in
theorem Reverse_any (v : Value) (g : List (List Int)) (w : World) (hg : Rows2 w w.heap.size v g) (hn : g.length ≤ 1000000) :
    Calls Try.prog 18 #[v] w (RevPost w g) := by
  obtain ⟨A, c, rfl, hc1, hc2, hrows⟩ := hg.parts
  have hm1 := maxLen_le hc2
  obtain ⟨n, e⟩ : ∃ n, g.length = n := ⟨_, rfl⟩
  have HN := Lib.hid e
  rw [e] at hn hc1 hg ⊢
  have HG := Lib.hid hrows
  clear e hrows hg hc2
  have hmk := fun W => run_make_row' (P := Try.prog) 22 23 (.slice none 0 0) 24 Try.underlying22 info23 rfl .i64 .i64 n (by omega) (by omega) W
  obtain ⟨i0, hi0, hz0, hz1, hz2⟩ := info_parts info3
  go_enter Try.func18, Try.ntmps18
  go_wp2_with fail
  obtain ⟨w1, hw1⟩ : ∃ w1, w1 = w.alloc (.cells (madeCells #[.slice none 0 0] n) 23) := ⟨_, rfl⟩
  have hS : ∃ vals, OwnM w w1 w.heap.size n (implRows g 0 0) vals := by
    rw [hw1]; exact ⟨_, (OwnM.start w n).congr fun b _ => by simp [implRows, G.preds]⟩
  have HS := Lib.hid hS
  rw [← hw1]
  clear hS hw1 hmk
  go_loopw [12] (fun i wr => ∃ k : Nat, k ≤ n ∧ i = .int .i64 k ∧ Hid (∃ vals, OwnM w wr w.heap.size n (implRows g k 0) vals)) (fun i _ => n - (intOf i).toNat)
  case atStart => exact ⟨0, Nat.zero_le _, rfl, HS.out⟩
  case round =>
    clear HS
    obtain ⟨k, hk, rfl, hI⟩ := hrel
    by_cases hlt : k < n
    · have hre := row_eq (g := g) (a := k) (by have := HN.out; omega)
      obtain ⟨ad, u, rfl, hb, hcell, hV⟩ := HG.out k _ hre
      obtain ⟨X, d, rfl, hd1, hd2, hels⟩ := hV.parts
      have hmx := maxLen_le hd2
      obtain ⟨vals, hO⟩ := hI.out
      have hcell' : wr.cell? (ad.add k) = some (.slice X (G.row g k).length d) := ((Same.of_below hO.below).cell (by rw [block_of_add]; exact hb)).trans hcell
      have HX := Lib.hid hels
      obtain ⟨l, hl⟩ : ∃ l, l = G.row g k := ⟨_, rfl⟩
      rw [← hl] at hcell' hd1 HX
      have HL := Lib.hid hl
      clear hl hre hels hV hd2 hcell hO
      go_wp2_with fail
      go_loopw [20] (fun i wr => ∃ j : Nat, j ≤ l.length ∧ i = .int .i64 j ∧ Hid (∃ vals, OwnM w wr w.heap.size n (implRows g k j) vals)) (fun i _ => l.length - (intOf i).toNat)
      case atStart => exact ⟨0, Nat.zero_le _, rfl, hI.out⟩
      case round =>
        clear hI hcell'
        obtain ⟨j, hj, rfl, hI⟩ := hrel
        obtain ⟨vals, hO⟩ := hI.out
        clear hI
        by_cases hjl : j < l.length
        · obtain ⟨xd, rfl, hxb, hxc⟩ := HX.out j _ (List.getElem?_eq_getElem hjl)
          have hxc' : wr.cell? (xd.add j) = some (.int .i64 l[j]) := ((Same.of_below hO.below).cell (by rw [block_of_add]; exact hxb)).trans hxc
          have hlk : (G.row g k)[j]? = some l[j] := by rw [← HL.out]; exact List.getElem?_eq_getElem hjl
          obtain ⟨x, hx⟩ : ∃ x, l[j] = x := ⟨_, rfl⟩
          rw [hx] at hxc' hlk
          have HLK := Lib.hid hlk
          clear hx hlk hxc
          by_cases hin : 0 ≤ x ∧ x < n
          · obtain ⟨q, rfl⟩ := ofNat_of hin.1
            have hqn : q < n := by omega
            have HIN := Lib.hid hin
            clear hin
            have hget := hO.outer.get hqn
            have hfr := hO.outer.free q
            have hown := hO.own q hqn
            obtain ⟨A', c', hv, hca, hcb, hrd⟩ := hO.form hqn
            rw [hv] at hget hown
            have hsz := hO.outer.lt
            have hmca := maxLen_le hca
            have hlen := implRows_len g k j q
            obtain ⟨L, hL⟩ : ∃ L, L = (implRows g k j q).length := ⟨_, rfl⟩
            rw [← hL] at hget hown hcb hv hlen
            have HLL := Lib.hid hL
            have HV := Lib.hid hv
            have HO := Lib.hid hO
            have HOW := Lib.hid hown
            have HRD := Lib.hid hrd
            clear hO hv hL hown hrd hca
            by_cases hmem : ((q : Int) ∈ (G.row g k).take j)
            · have hL0 : 0 < L := by have := HLL.out; rw [this]; unfold implRows; simp [hmem]
              obtain ⟨ld, rfl, hlc⟩ := HRD.out (L - 1) (k : Int) (by rw [HLL.out]; unfold implRows; simp [hmem])
              have b1 : ((L : Int) == 0) = false := by simp; omega
              have b2 : ((k : Int) != (k : Int)) = false := by simp
              have HM := Lib.hid hmem
              clear hmem
              have e2 : (0 : Int) ≤ (L : Int) - 1 := by omega
              have e3 : ((L : Int) - 1).toNat = L - 1 := by omega
              have e4 : (L : Int) - 1 < (L : Int) := by omega
              have e5 : (1 : Int) ≤ (L : Int) := by omega
              have e6 : 1 ≤ L := by omega
              have e1 : IntKind.i64.wrap ((L : Int) - 1) = (L : Int) - 1 := IntWalk.i64_in _ (by omega)
              go_wp2_with fail
              go_quiet ((go_at_call 31; exact quiet_left (inside_yes _ _ _ _ _ HIN.out)))
              go_wp2_with fail
              go_roundw
              case rel => exact ⟨j + 1, by omega, by go_num, vals, (HO.out.drewN nq).congr fun b _ => (implRows_same HLK.out (fun h => h ▸ HM.out)).symm⟩
              case measure => simp [intOf]; omega
            · have HM := Lib.hid hmem
              clear hmem
              by_cases hL0 : L = 0
              · subst hL0
                go_wp2_with fail
                go_quiet ((go_at_call 31; exact quiet_left (inside_yes _ _ _ _ _ HIN.out)))
                obtain ⟨wq, hwq⟩ : ∃ wq, wq = wr.drewN nq := ⟨_, rfl⟩
                rw [← hwq]
                have hget : wq.cell? ⟨w.heap.size, q, none⟩ = some (.slice A' 0 c') := by rw [hwq]; exact hget
                have hfr : wq.frozen? ⟨w.heap.size, q, none⟩ = false := by rw [hwq]; exact hfr
                have hsz : w.heap.size < wq.heap.size := by rw [hwq]; exact hsz
                have HOW : Hid (wq.ownsRow (w.heap.size + 1) 3 1 (.slice A' 0 c') 0 ((implRows g k j q).map (.int .i64))) := by rw [hwq]; exact HOW.out
                have HO : Hid (OwnM w wq w.heap.size n (implRows g k j) vals) := by rw [hwq]; exact HO.out.drewN nq
                clear hwq
                go_wp2_with (first
                  | (at_builtin; refine wpList_append_lies _ rfl (.tmp 56) (.tmp 58) _ rfl (w.heap.size + 1) 3 i0 _ 1 8 Try.underlying23 hi0 hz0 hz1 hz2 rfl (by omega) (.slice A' 0 c') 0 _ rfl (HOW.out.alloc _) ⟨wq.heap.size, 0, none⟩ 1 1 [.int .i64 k] rfl rfl (cell_one_new _ _ _) (fun u hu => by simp at hu; subst hu; rfl) (by omega) (by unfold maxLen; omega) (by omega) (by simp; omega) (wq.heap.size + 1) (by simp) ?_))
                intro g2 cap w2 h1 h2 h3 h4
                have kc : w2.cell? ⟨w.heap.size, q, none⟩ = some (.slice A' 0 c') :=
                  (h2.cell_far ⟨w.heap.size, q, none⟩ (by simp; omega) (fun e => by have := (HOW.out.lt _ e.symm).1; simp at this; omega)).trans ((World.cell?_alloc_lt _ _ _ hsz).trans hget)
                have kf : w2.frozen? ⟨w.heap.size, q, none⟩ = false :=
                  (h2.frozen_far ⟨w.heap.size, q, none⟩ (by simp; omega) (fun e => by have := (HOW.out.lt _ e.symm).1; simp at this; omega)).trans ((World.frozen?_alloc_past _ _ _ hsz).trans hfr)
                have HF := Lib.hid (And.intro h1 (And.intro h2 h3))
                clear h1 h2 h3 hget hfr
                go_wp2_with fail
                go_roundw
                case rel =>
                  obtain ⟨h1, h2, h3⟩ := HF.out
                  have hz : (implRows g k j q).length = 0 := HLL.out.symm
                  have hst := HO.out.store (b := q) (x := k) (o := .cells #[.int .i64 k] 3) (g := g2) (cap := cap) hqn (by rw [hz]; exact h1) (by rw [HV.out]; exact h2) (by rw [HV.out, World.size_alloc]; exact h3)
                  rw [hz] at hst
                  refine ⟨j + 1, by omega, by go_num, _, hst.congr fun b _ => ?_⟩
                  by_cases e : b = q
                  · subst e; rw [if_pos rfl, implRows_add HLK.out HM.out]
                  · rw [if_neg e]; exact (implRows_same HLK.out (fun h => absurd h (by omega))).symm
                case measure => simp [intOf]; omega
              · have hL1 : 0 < L := by omega
                obtain ⟨z, hz, hzk⟩ : ∃ z : Nat, (implRows g k j q)[L - 1]? = some (z : Int) ∧ z < k := by
                  have hlt2 : L - 1 < (implRows g k j q).length := by have := HLL.out; omega
                  have e : implRows g k j q = G.preds g q k := by unfold implRows; rw [if_neg HM.out, List.append_nil]
                  rw [e] at hlt2 ⊢
                  obtain ⟨z, hz, h1, _⟩ := G.preds_lt (List.getElem_mem hlt2)
                  exact ⟨z, by rw [List.getElem?_eq_getElem hlt2, hz], h1⟩
                obtain ⟨ld, rfl, hlc⟩ := HRD.out (L - 1) (z : Int) hz
                have b1 : ((L : Int) == 0) = false := by simp; omega
                have b2 : ((z : Int) != (k : Int)) = true := by simp; omega
                clear hL0 hz
                have e2 : (0 : Int) ≤ (L : Int) - 1 := by omega
                have e3 : ((L : Int) - 1).toNat = L - 1 := by omega
                have e4 : (L : Int) - 1 < (L : Int) := by omega
                have e5 : (1 : Int) ≤ (L : Int) := by omega
                have e6 : 1 ≤ L := by omega
                have e1 : IntKind.i64.wrap ((L : Int) - 1) = (L : Int) - 1 := IntWalk.i64_in _ (by omega)
                go_wp2_with fail
                go_quiet ((go_at_call 31; exact quiet_left (inside_yes _ _ _ _ _ HIN.out)))
                clear e1 e2 e3 e4
                obtain ⟨wq, hwq⟩ : ∃ wq, wq = wr.drewN nq := ⟨_, rfl⟩
                rw [← hwq]
                have hget : wq.cell? ⟨w.heap.size, q, none⟩ = some (.slice (some ld) L c') := by rw [hwq]; exact hget
                have hfr : wq.frozen? ⟨w.heap.size, q, none⟩ = false := by rw [hwq]; exact hfr
                have hsz : w.heap.size < wq.heap.size := by rw [hwq]; exact hsz
                have HOW : Hid (wq.ownsRow (w.heap.size + 1) 3 1 (.slice (some ld) L c') L ((implRows g k j q).map (.int .i64))) := by rw [hwq]; exact HOW.out
                have HO : Hid (OwnM w wq w.heap.size n (implRows g k j) vals) := by rw [hwq]; exact HO.out.drewN nq
                clear hwq
                go_wp2_with (first
                  | (at_builtin; refine wpList_append_lies _ rfl (.tmp 56) (.tmp 58) _ rfl (w.heap.size + 1) 3 i0 _ 1 8 Try.underlying23 hi0 hz0 hz1 hz2 rfl (by omega) (.slice (some ld) L c') L _ rfl (HOW.out.alloc _) ⟨wq.heap.size, 0, none⟩ 1 1 [.int .i64 k] rfl rfl (cell_one_new _ _ _) (fun u hu => by simp at hu; subst hu; rfl) (by omega) (by unfold maxLen; omega) (by omega) (by simp; omega) (wq.heap.size + 1) (by simp) ?_))
                intro g2 cap w2 h1 h2 h3 h4
                have kc : w2.cell? ⟨w.heap.size, q, none⟩ = some (.slice (some ld) L c') :=
                  (h2.cell_far ⟨w.heap.size, q, none⟩ (by simp; omega) (fun e => by have := (HOW.out.lt _ e.symm).1; simp at this; omega)).trans ((World.cell?_alloc_lt _ _ _ hsz).trans hget)
                have kf : w2.frozen? ⟨w.heap.size, q, none⟩ = false :=
                  (h2.frozen_far ⟨w.heap.size, q, none⟩ (by simp; omega) (fun e => by have := (HOW.out.lt _ e.symm).1; simp at this; omega)).trans ((World.frozen?_alloc_past _ _ _ hsz).trans hfr)
                have HF := Lib.hid (And.intro h1 (And.intro h2 h3))
                clear h1 h2 h3 hget hfr
                go_wp2_with fail
                go_roundw
                case rel =>
                  obtain ⟨h1, h2, h3⟩ := HF.out
                  rw [HLL.out] at h1
                  have hst := HO.out.store (b := q) (x := k) (o := .cells #[.int .i64 k] 3) hqn h1 (by rw [HV.out]; exact h2) (by rw [HV.out, World.size_alloc]; exact h3)
                  rw [← HLL.out] at hst
                  refine ⟨j + 1, by omega, by go_num, _, hst.congr fun b _ => ?_⟩
                  by_cases e : b = q
                  · subst e; rw [if_pos rfl, implRows_add HLK.out HM.out]
                  · rw [if_neg e]; exact (implRows_same HLK.out (fun h => absurd h (by omega))).symm
                case measure => simp [intOf]; omega
          · have HIN := Lib.hid hin
            have HO := Lib.hid hO
            clear hin hO
            go_wp2_with fail
            go_quiet ((go_at_call 31; exact quiet_left (inside_no _ _ _ _ _ HIN.out)))
            go_wp2_with fail
            go_roundw
            case rel => exact ⟨j + 1, by omega, by go_num, vals, (HO.out.drewN nq).congr fun b _ => (implRows_same HLK.out (fun h => absurd (And.intro (by omega) (by omega)) HIN.out)).symm⟩
            case measure => simp [intOf]; omega
        · go_wp2_with fail
          go_roundw
          case rel =>
            obtain rfl : j = l.length := by omega
            exact ⟨k + 1, by omega, by go_num, vals, hO.congr fun b _ => by rw [implRows_next, HL.out]⟩
          case measure => simp [intOf]; omega
    · go_wp2_with fail
      go_ret
      obtain ⟨vals, hO⟩ := hI.out
      refine ⟨_, rfl, hO.below, ?_⟩
      have := (hO.congr (rows' := fun b => G.preds g b n) fun b hb => by
        obtain rfl : k = n := by omega
        simp [implRows]).reads (by unfold maxLen; omega)
      unfold G.rev
      rw [HN.out]; exact this
end Go.Proofs.Ytiebfnchimfjiaa
