/- DigraphMutual: the walk. -/
import Derived.Test.YtiebfnchimfjiaaLaws3
import Derived.Test.YtiebfnchimfjiaaReachRow
namespace Go.Proofs.Ytiebfnchimfjiaa
open Go.RowKit Go.Deep

/-- The rows so far: each is a row of its own. -/
def RowsM (w : World) (g : List (List Int)) (n k : Nat) (vals : List Value) : Prop :=
  ∀ a, a < k → ∃ (B : Nat) (o : Nat → Bool), vals[a]? = some (.slice (some ⟨B, 0, none⟩) n n) ∧ RowF w B 4 n (fun b => .bool (o b)) ∧ ∀ b, b < n → (o b = true ↔ G.Rch g [(a : Int)] b)

theorem rch_one {g : List (List Int)} {a b : Nat} (ha : a < g.length) : G.Rch g [(a : Int)] b ↔ G.Rs g a b := by
  constructor
  · rintro ⟨x, hx, _, h⟩
    have : (x : Int) = a := by simpa using hx
    obtain rfl : x = a := by omega
    exact h
  · intro h; exact ⟨a, by simp, ha, h⟩

set_option maxHeartbeats 2000000 in
theorem Mutual_any (u : Value) (g : List (List Int)) (w : World) (hg : Rows2 w w.heap.size u g) : Calls Try.prog 9 #[u] w (Yes w) := by
  have con := Small_any u g w w.heap.size hg
  obtain ⟨A, c, rfl, hc1, hc2, _⟩ := hg.parts
  have hm1 := maxLen_le hc2
  obtain ⟨n, hn⟩ : ∃ n, g.length = n := ⟨_, rfl⟩
  have HN := Lib.hid hn
  rw [hn] at con hc1 hg ⊢
  have HG := Lib.hid hg
  clear hg hc2 hn
  cases hs : smallS g with
  | false =>
    rw [hs] at con
    have CON := hide con
    clear con hs
    go_enter Try.func9, Try.ntmps9
    go_wp2_with (first
      | (go_at_call 12; refine (unhide CON).mono ?_; rintro e w' ⟨rfl, rfl⟩)
      | (go_at_call 13; refine (awake_any _).mono ?_; rintro e w' ⟨rfl, hb⟩))
    go_ret
    exact ⟨rfl, hb⟩
  | true =>
    rw [hs] at con
    have CON := hide con
    have hn12 := small_len hs
    rw [HN.out] at hn12
    clear con hs
    obtain ⟨i0, hi0, hz0, hz1, hz2⟩ := info_parts info27
    go_enter Try.func9, Try.ntmps9
    go_wp2_with (first
      | (go_at_call 12; refine (unhide CON).mono ?_; rintro e w' ⟨rfl, rfl⟩))
    refine (Comp_any _ g w HG.out (by have := HN.out; omega)).mono ?_
    rintro e w1 ⟨p, oc, rfl, hb1, hp1, hoc⟩
    obtain ⟨P, pc, rfl, hpl, hpm, hpe⟩ := hp1.parts
    have hmp := maxLen_le hpm
    simp only [List.length_map, List.length_range] at hpl hpe hp1 ⊢
    rw [HN.out] at hpl hpe hp1 ⊢
    have HB1 := Lib.hid hb1; have HP := Lib.hid hpe; have HOC := Lib.hid hoc
    clear hb1 hp1 hpm hpe hoc CON
    go_wp2_with fail
    go_loopw [4, 5] (fun s i wr => ∃ k : Nat, k ≤ n ∧ i = .int .i64 k ∧ ∃ S sc, s = .slice S k sc ∧ sc ≤ 9223372036854775807 ∧ Hid (∃ vals, wr.ownsRow w1.heap.size 27 1 (.slice S k sc) k vals ∧ Below w1.heap.size w1 wr ∧ RowsM wr g n k vals)) (fun _ i _ => n - (intOf i).toNat)
    case atStart => exact ⟨0, Nat.zero_le _, rfl, none, 0, rfl, by omega, [], World.ownsRow_nil _ _ _ _, Below.refl _ _, fun a ha => absurd ha (Nat.not_lt_zero _)⟩
    case round =>
      obtain ⟨k, hk, rfl, S, sc, rfl, hsc, hI⟩ := hrel
      obtain ⟨vals, hown, hB, hM⟩ := hI.out
      clear hI
      have HOW := Lib.hid hown; have HB := Lib.hid hB; have HM := Lib.hid hM
      clear hown hB hM
      by_cases hlt : k < n
      · go_wp2_with fail
        have hwA : ∃ wA, wA = wr.alloc (.cells #[.int .i64 k] 3) := ⟨_, rfl⟩
        obtain ⟨wA, hwA⟩ := hwA
        have hli : Ints wA wA.heap.size (.slice (some ⟨wr.heap.size, 0, none⟩) 1 1) [(k : Int)] := by rw [hwA]; exact lit1 wr k
        have hBA : Below w1.heap.size w1 wA := by rw [hwA]; exact HB.out.alloc HB.out.size _
        have hGA : wr.grownBy wA none := by rw [hwA]; exact World.grownBy_alloc _ _ _
        rw [← hwA]
        clear hwA
        have hC : Below w.heap.size w wA := HB1.out.trans (hBA.mono HB1.out.size)
        refine (Reach_row _ _ g [(k : Int)] wA ((HG.out.same (Same.of_below hC)).more hC.size) hli (by have := HN.out; omega)).mono ?_
        rintro e w3 ⟨Bk, o, rfl, hb3, hR, ho⟩
        rw [HN.out] at hR ho ⊢
        have hG3 : wr.grownBy w3 none := hGA.trans ⟨hb3.os, hb3.tape, hb3.output, hb3.size, fun q hq _ => hb3.block q hq⟩
        have HB3 : Hid (Below w1.heap.size w1 w3) := hBA.trans (hb3.mono hBA.size)
        have HG3 := Lib.hid hG3; have HR := Lib.hid hR; have HO := Lib.hid ho
        have HOW3 : Hid (w3.ownsRow w1.heap.size 27 1 (.slice S k sc) k vals) := HOW.out.kept hG3 (by cases S <;> simp [Value.ownBlock])
        clear hli hBA hGA hC hb3 hR ho hG3
        have hsz := HB3.out.size
        go_wp2_with (first
          | (at_builtin; refine wpList_append_lies _ rfl (.tmp 25) (.tmp 30) _ rfl w1.heap.size 27 i0 _ 1 24 Try.underlying38 hi0 hz0 hz1 hz2 rfl (by omega) (.slice S k sc) k _ rfl (HOW3.out.alloc _) ⟨w3.heap.size, 0, none⟩ 1 1 [.slice (some ⟨Bk, 0, none⟩) n n] rfl rfl (cell_one_new _ _ _) (fun u hu => by simp at hu; subst hu; rfl) (by omega) (by unfold maxLen; omega) (by omega) (by simp; omega) (w3.heap.size + 1) (by simp) ?_))
        intro g2 cap w4 h1 h2 h3 h4
        have hcell : w4.cell? ⟨g2, k, none⟩ = some (.slice (some ⟨Bk, 0, none⟩) n n) := by
          rw [h1.cellAt k (by omega), List.getElem?_append_right (by have := HOW3.out.1; omega)]
          have := HOW3.out.1
          simp [show k - vals.length = 0 by omega]
        have hcap : cap ≤ 9223372036854775807 := by
          rcases h1.2 with ⟨h, _⟩ | ⟨_, cp, _, h, _, _, _, hh, _⟩
          · cases h
          · injection h with _ _ h; subst h; exact maxLen_le hh
        have HF := Lib.hid (And.intro h1 h2)
        clear h1 h2 h3 h4
        go_wp2_with fail
        go_roundw
        case rel =>
          obtain ⟨h1, h2⟩ := HF.out
          have hlv := HOW3.out.1
          refine ⟨k + 1, by omega, by go_num, _, _, rfl, hcap, _, h1, (HB3.out.alloc hsz _).grown h2 (by simp; omega) (fun q hq => (HOW3.out.lt q hq).1), fun a ha => ?_⟩
          by_cases e : a = k
          · subst e
            refine ⟨Bk, o, by rw [List.getElem?_append_right (by omega)]; simp [show a - vals.length = 0 by omega], Row.grown (Row.alloc HR.out _) h2 (fun he => own_row_ne HOW3.out HR.out (by decide) he.symm), HO.out⟩
          · obtain ⟨B, o', e1, e2, e3⟩ := HM.out a (by omega)
            have hR3 : RowF w3 B 4 n (fun b => .bool (o' b)) := Row.grown e2 HG3.out (by simp)
            exact ⟨B, o', by rw [List.getElem?_append_left (by omega)]; exact e1, Row.grown (Row.alloc hR3 _) h2 (fun he => own_row_ne HOW3.out hR3 (by decide) he.symm), e3⟩
        case measure => simp [intOf]; omega
      · obtain rfl : k = n := by omega
        go_wp2_with fail
        have hAt := At.of_own HOW.out
        have HAT := Lib.hid hAt
        clear hAt
        have HY : Hid (Below w.heap.size w wr) := HB1.out.trans (HB.out.mono HB1.out.size)
        go_loopw [6] (fun i wq => ∃ x : Nat, x ≤ k ∧ i = .int .i64 x ∧ ∃ q, wq = wr.drewN q) (fun i _ => k - (intOf i).toNat)
        case atStart => exact ⟨0, Nat.zero_le _, rfl, 0, rfl⟩
        case round =>
          obtain ⟨x, hx, rfl, q, rfl⟩ := hrel
          by_cases hxn : x < k
          · go_wp2_with fail
            go_loopw [7] (fun i wq => ∃ y : Nat, y ≤ k ∧ i = .int .i64 y ∧ ∃ q, wq = wr.drewN q) (fun i _ => k - (intOf i).toNat)
            case atStart => exact ⟨0, Nat.zero_le _, rfl, q, rfl⟩
            case round =>
              obtain ⟨y, hy, rfl, q, rfl⟩ := hrel
              by_cases hyn : y < k
              · obtain ⟨Bx, ox, e1, e2, e3⟩ := HM.out x hxn
                obtain ⟨By, oy, f1, f2, f3⟩ := HM.out y hyn
                obtain ⟨sd, rfl, _, c1⟩ := HAT.out x _ e1
                obtain ⟨sd', hs, _, c2⟩ := HAT.out y _ f1
                obtain rfl : sd = sd' := by injection hs
                have c3 := e2.get hyn
                have c4 := f2.get hxn
                obtain ⟨pd, rfl, pb, c5⟩ := HP.out x (oc x) (by simp [hxn])
                obtain ⟨pd', hs', pb', c6⟩ := HP.out y (oc y) (by simp [hyn])
                obtain rfl : pd = pd' := by injection hs'
                have c5' : wr.cell? (pd.add x) = some (.int .i64 (oc x)) := ((Same.of_below HB.out).cell (by rw [block_of_add]; exact pb)).trans c5
                have c6' : wr.cell? (pd.add y) = some (.int .i64 (oc y)) := ((Same.of_below HB.out).cell (by rw [block_of_add]; exact pb')).trans c6
                have hiff : oc x = oc y ↔ (ox y && oy x) = true := by
                  have hxg : x < g.length := by rw [HN.out]; exact hxn
                  have hyg : y < g.length := by rw [HN.out]; exact hyn
                  rw [G.IsC.iff hxg hyg (HOC.out x hxg) (HOC.out y hyg), Bool.and_eq_true, e3 y hyn, f3 x hxn, rch_one hxg, rch_one hyg]
                  exact Iff.rfl
                obtain ⟨a, ha⟩ : ∃ a, oc x = a := ⟨_, rfl⟩
                obtain ⟨b, hb⟩ : ∃ b, oc y = b := ⟨_, rfl⟩
                obtain ⟨s, hs⟩ : ∃ s, ox y = s := ⟨_, rfl⟩
                obtain ⟨t, ht⟩ : ∃ t, oy x = t := ⟨_, rfl⟩
                rw [ha] at c5' hiff
                rw [hb] at c6' hiff
                rw [hs] at c3 hiff
                rw [ht] at c4 hiff
                have heq : (a == b) = (s && t) := by rw [Bool.eq_iff_iff, ← hiff]; simp
                clear e1 e2 e3 f1 f2 f3 c5 c6 hiff ha hb hs ht pb pb' hs'
                cases s with
                | false =>
                  rw [Bool.false_and] at heq
                  go_wp2_with fail
                  go_quiet (fail)
                  go_wp2_with fail
                  go_roundw
                  case rel => exact ⟨y + 1, by omega, by go_num, _, rfl⟩
                  case measure => simp [intOf]; omega
                | true =>
                  rw [Bool.true_and] at heq
                  cases t with
                  | false =>
                    go_wp2_with fail
                    go_quiet (fail)
                    go_wp2_with fail
                    go_roundw
                    case rel => exact ⟨y + 1, by omega, by go_num, _, rfl⟩
                    case measure => simp [intOf]; omega
                  | true =>
                    go_wp2_with fail
                    go_quiet (fail)
                    go_wp2_with fail
                    go_roundw
                    case rel => exact ⟨y + 1, by omega, by go_num, _, rfl⟩
                    case measure => simp [intOf]; omega
              · go_wp2_with fail
                go_roundw
                case rel => exact ⟨x + 1, by omega, by go_num, q, rfl⟩
                case measure => simp [intOf]; omega
          · go_wp2_with (first
              | (go_at_call 13; refine (awake_any _).mono ?_; rintro e w' ⟨rfl, hb⟩))
            go_ret
            exact ⟨rfl, (below_drewN HY.out q).trans (hb.mono HY.out.size)⟩
end Go.Proofs.Ytiebfnchimfjiaa
