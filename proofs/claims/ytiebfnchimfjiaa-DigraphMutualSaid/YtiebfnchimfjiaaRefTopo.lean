/- ref.Topo: the walk. -/
import Derived.Test.YtiebfnchimfjiaaComp
import Derived.Test.YtiebfnchimfjiaaDist
import Derived.Test.YtiebfnchimfjiaaTopoP
namespace Go.Proofs.Ytiebfnchimfjiaa
open Go.RowKit Go.Deep

/-- The two results: the order (nil if there is none), and whether there is one. -/
def TopoPost (w : World) (g : List (List Int)) (e : Ending) (w' : World) : Prop :=
  ∃ v, e = .returned (.tuple #[v, .bool (G.topo g).isSome]) ∧ Below w.heap.size w w' ∧ Ints w' w'.heap.size v (G.ints ((G.topo g).getD []))

theorem freeS_ints (g : List (List Int)) (out : List Nat) (b : Nat) : freeS g (G.ints out) b = G.freeP g out b := by
  unfold freeS G.freeP G.ed
  congr 1
  funext a
  congr 1
  simp only [G.mem_ints]

/-- Going down from the last node: x is the least of those from j on that may come next, or -1. -/
def NextD (g : List (List Int)) (out : List Nat) (j : Int) (x : Int) : Prop :=
  (x = -1 ∧ ∀ b : Nat, j ≤ b → b < g.length → G.okP g out b = false) ∨ ∃ b : Nat, x = b ∧ j ≤ b ∧ b < g.length ∧ G.okP g out b = true ∧ ∀ a : Nat, j ≤ a → a < b → G.okP g out a = false
theorem NextD.fin {g : List (List Int)} {out : List Nat} {x : Int} (h : NextD g out 0 x) : (x = -1 ∧ G.nxt g out = none) ∨ ∃ b : Nat, x = b ∧ G.nxt g out = some b := by
  rcases h with ⟨h1, h2⟩ | ⟨b, h1, _, h3, h4, h5⟩
  · exact .inl ⟨h1, G.find_none fun a ha => h2 a (by omega) ha⟩
  · exact .inr ⟨b, h1, G.find_first h3 h4 fun a ha => h5 a (by omega) ha⟩

theorem next_no {g : List (List Int)} {out : List Nat} {q : Nat} {y : Int} (h : NextD g out ((q : Int) + 1) y) (hok : G.okP g out q = false) : NextD g out q y := by
  have key : ∀ a : Nat, (q : Int) ≤ a → (∀ a : Nat, (q : Int) + 1 ≤ a → True) → a = q ∨ (q : Int) + 1 ≤ a := fun a h _ => by omega
  rcases h with ⟨h1, h2⟩ | ⟨b, h1, h2, h3, h4, h5⟩
  · exact .inl ⟨h1, fun b hb hl => by
      rcases key b hb (fun _ _ => trivial) with e | e
      · rw [e]; exact hok
      · exact h2 b e hl⟩
  · exact .inr ⟨b, h1, by omega, h3, h4, fun a ha hl => by
      rcases key a ha (fun _ _ => trivial) with e | e
      · rw [e]; exact hok
      · exact h5 a e hl⟩
theorem next_yes {g : List (List Int)} {out : List Nat} {q : Nat} (hq : q < g.length) (hok : G.okP g out q = true) : NextD g out q q :=
  .inr ⟨q, rfl, Int.le_refl _, hq, hok, fun a h1 h2 => absurd h2 (by omega)⟩

set_option maxHeartbeats 2000000 in
theorem RefTopo_any (v : Value) (g : List (List Int)) (w : World) (hg : Rows2 w w.heap.size v g) (hn : g.length ≤ 1000000) :
    Calls Try.prog 26 #[v] w (TopoPost w g) := by
  obtain ⟨A, c, rfl, hc1, hc2, hrows⟩ := hg.parts
  have hm1 := maxLen_le hc2
  obtain ⟨n, e⟩ : ∃ n, g.length = n := ⟨_, rfl⟩
  have HN := Lib.hid e
  rw [e] at hn hc1 hg ⊢
  have HG := Lib.hid hg
  clear e hrows hg hc2
  obtain ⟨i0, hi0, hz0, hz1, hz2⟩ := info_parts info3
  go_enter Try.func26, Try.ntmps26
  go_wp2_with fail
  go_loopw [4] (fun v wr => ∃ (A : Option Addr) (k c : Nat), v = .slice A k c ∧ k ≤ n ∧ k ≤ c ∧ c ≤ 9223372036854775807 ∧ Hid (∃ out, k = out.length ∧ wr.ownsRow w.heap.size 3 1 (.slice A k c) k ((G.ints out).map (.int .i64)) ∧ Below w.heap.size w wr ∧ G.Ord g out)) (fun v _ => n - lenOf v)
  case atStart => exact ⟨none, 0, 0, rfl, Nat.zero_le _, Nat.le_refl _, by omega, [], rfl, World.ownsRow_nil _ _ _ _, Below.refl _ _, G.Ord.start g⟩
  case round =>
    obtain ⟨A1, k, c1, rfl, hk, hkc, hcm, hI⟩ := hrel
    obtain ⟨out, hlo, hown, hB, hO⟩ := hI.out
    have HLO := Lib.hid hlo; have HOW := Lib.hid hown; have HB := Lib.hid hB; have HO := Lib.hid hO
    have hsz := hB.size
    have hout : Ints wr wr.heap.size (.slice A1 k c1) (G.ints out) := Sl.of_own hown
    have HOUT := Lib.hid hout
    clear hlo hown hB hO hI hout
    by_cases hlt : k < n
    · go_wp2_with fail
      go_loop [5, 6] (fun x b => ∃ (y : Int) (j : Int), -1 ≤ j ∧ j < n ∧ -1 ≤ y ∧ y < n ∧ x = .int .i64 y ∧ b = .int .i64 j ∧ Hid (NextD g out (j + 1) y)) (fun _ b => (intOf b + 1).toNat)
      case atStart => exact ⟨-1, (n : Int) - 1, by omega, by omega, by omega, by omega, rfl, rfl, .inl ⟨rfl, fun b h1 h2 => by have := HN.out; omega⟩⟩
      case round =>
        obtain ⟨y, j, hj1, hj2, hy1, hy2, rfl, rfl, HX⟩ := hrel
        by_cases h0 : 0 ≤ j
        · obtain ⟨q, rfl⟩ := ofNat_of h0
          have hqn : q < n := by omega
          have con1 := has_any (.slice A1 k c1) (G.ints out) q wr wr.heap.size HOUT.out
          have con2 := free_any (.slice A n c) (.slice A1 k c1) g (G.ints out) q wr wr.heap.size ((HG.out.same (Same.of_below HB.out)).more hsz) HOUT.out
          rw [freeS_ints] at con2
          have CON1 := hide con1; have CON2 := hide con2
          clear con1 con2 h0
          cases h1 : decide ((q : Int) ∈ G.ints out) with
          | true =>
            rw [h1] at CON1
            have H1 := Lib.hid h1
            clear h1
            go_wp2_with (first | (go_at_call 35; refine (unhide CON1).mono ?_; rintro e w' ⟨rfl, rfl⟩) | (go_at_call 36; refine (unhide CON2).mono ?_; rintro e w' ⟨rfl, rfl⟩))
            go_round
            case rel => exact ⟨y, (q : Int) - 1, by omega, by omega, hy1, hy2, rfl, rfl, by rw [show (q : Int) - 1 + 1 = q by omega]; exact next_no HX.out (by unfold G.okP; have := H1.out; simp only [G.mem_ints] at this; rw [this]; rfl)⟩
            case measure => simp [intOf]
          | false =>
            rw [h1] at CON1
            have H1 := Lib.hid h1
            clear h1
            cases h2 : G.freeP g out q with
            | true =>
              rw [h2] at CON2
              have H2 := Lib.hid h2
              clear h2
              go_wp2_with (first | (go_at_call 35; refine (unhide CON1).mono ?_; rintro e w' ⟨rfl, rfl⟩) | (go_at_call 36; refine (unhide CON2).mono ?_; rintro e w' ⟨rfl, rfl⟩))
              go_round
              case rel => exact ⟨q, (q : Int) - 1, by omega, by omega, by omega, by omega, rfl, rfl, by rw [show (q : Int) - 1 + 1 = q by omega]; exact next_yes (by have := HN.out; omega) (by unfold G.okP; have := H1.out; simp only [G.mem_ints] at this; rw [this, H2.out]; rfl)⟩
              case measure => simp [intOf]
            | false =>
              rw [h2] at CON2
              have H2 := Lib.hid h2
              clear h2
              go_wp2_with (first | (go_at_call 35; refine (unhide CON1).mono ?_; rintro e w' ⟨rfl, rfl⟩) | (go_at_call 36; refine (unhide CON2).mono ?_; rintro e w' ⟨rfl, rfl⟩))
              go_round
              case rel => exact ⟨y, (q : Int) - 1, by omega, by omega, hy1, hy2, rfl, rfl, by rw [show (q : Int) - 1 + 1 = q by omega]; exact next_no HX.out (by unfold G.okP; rw [H2.out, Bool.and_false])⟩
              case measure => simp [intOf]
        · have hX := HX.out
          rw [show j + 1 = 0 by omega] at hX
          rcases hX.fin with ⟨rfl, hnx⟩ | ⟨b, rfl, hnx⟩
          · have HNX := Lib.hid hnx
            clear hX hnx
            go_wp2_with fail
            go_ret2
            have ht := HO.out.stuck (by have := HN.out; have := HLO.out; omega) HNX.out
            refine ⟨.slice none 0 0, ?_, HB.out, ?_⟩
            · rw [ht]; rfl
            · rw [ht]; exact Sl.nil
          · have HNX := Lib.hid hnx
            have hb0 : ¬ ((b : Int) < 0) := by omega
            clear hX hnx
            go_wp2_with (first
              | (at_builtin; refine wpList_append_lies _ rfl (.tmp 32) (.tmp 34) _ rfl w.heap.size 3 i0 _ 1 8 Try.underlying23 hi0 hz0 hz1 hz2 rfl (by omega) (.slice A1 k c1) k _ rfl (HOW.out.alloc _) ⟨wr.heap.size, 0, none⟩ 1 1 [.int .i64 b] rfl rfl (cell_one_new _ _ _) (fun u hu => by simp at hu; subst hu; rfl) (by omega) (by unfold maxLen; omega) (by omega) (by simp; omega) (wr.heap.size + 1) (by simp) ?_))
            intro g2 cap w2 h1 h2 h3 h4
            have HF := Lib.hid (And.intro h1 h2)
            have hcap := (Sl.of_own h1)
            have hcap1 : k + 1 ≤ cap ∧ cap ≤ 9223372036854775807 := by
              obtain ⟨_, _, e, k1, k2, _⟩ := hcap
              injection e with _ e2 e3
              subst e3
              have := h1.1
              exact ⟨by omega, maxLen_le k2⟩
            clear h1 h2 h3 h4 hcap
            go_wp2_with fail
            go_roundw
            case rel =>
              obtain ⟨h1, h2⟩ := HF.out
              refine ⟨some ⟨g2, 0, none⟩, k + 1, cap, rfl, by omega, hcap1.1, hcap1.2, out ++ [b], by simp [HLO.out], ?_, ?_, ?_⟩
              · simpa [G.ints] using h1
              · exact (HB.out.alloc hsz _).grown h2 (by simp; omega) (fun q hq => (HOW.out.lt q hq).1)
              · exact (HO.out.step (by have := HN.out; have := HLO.out; omega) HNX.out).1
            case measure => simp [lenOf]; omega
    · go_wp2_with fail
      go_ret2
      have ht := HO.out.full (by have := HN.out; have := HLO.out; omega)
      refine ⟨.slice A1 k c1, ?_, HB.out, ?_⟩
      · rw [ht]; rfl
      · rw [ht]; exact HOUT.out
end Go.Proofs.Ytiebfnchimfjiaa
