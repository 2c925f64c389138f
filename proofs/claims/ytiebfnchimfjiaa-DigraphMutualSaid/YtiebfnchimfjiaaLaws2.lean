/- The laws that stand without the reference: the walks. -/
import Derived.Test.YtiebfnchimfjiaaLaws1
import Derived.Test.YtiebfnchimfjiaaAfter
namespace Go.Proofs.Ytiebfnchimfjiaa
open Go.RowKit Go.Deep

set_option maxHeartbeats 1000000 in
theorem Acyclic_any (u : Value) (g : List (List Int)) (w : World) (hg : Rows2 w w.heap.size u g) : Calls Try.prog 10 #[u] w (Yes w) := by
  have con := Small_any u g w w.heap.size hg
  cases hs : smallS g with
  | false =>
    rw [hs] at con
    have CON := hide con
    clear con hs
    go_enter Try.func10, Try.ntmps10
    go_wp2_with (first
      | (go_at_call 12; refine (unhide CON).mono ?_; rintro e w' ⟨rfl, rfl⟩)
      | (go_at_call 13; refine (awake_any _).mono ?_; rintro e w' ⟨rfl, hb⟩))
    go_ret
    exact ⟨rfl, hb⟩
  | true =>
    rw [hs] at con
    have CON := hide con
    have hT := Topo_any u g w hg (by have := small_len hs; omega)
    have HS := Lib.hid hs; have HG := Lib.hid hg
    clear con hs hg
    cases ht : G.topo g with
    | none =>
      have CT : Hid (Calls Try.prog 25 #[u] w fun e w' => ∃ v, e = .returned (.tuple #[v, .bool false]) ∧ Below w.heap.size w w') :=
        hT.mono fun e w' ⟨v, h1, h2, _⟩ => ⟨v, by rw [h1, ht]; rfl, h2⟩
      have HT := Lib.hid ht
      clear hT ht
      go_enter Try.func10, Try.ntmps10
      go_wp2_with (first
        | (go_at_call 12; refine (unhide CON).mono ?_; rintro e w' ⟨rfl, rfl⟩))
      refine (unhide CT).mono ?_
      rintro e w1 ⟨p, rfl, hb1⟩
      have HB1 := Lib.hid hb1
      clear hb1 CON CT
      go_wp2_with fail
      refine (Cycle_any u g w1 ((HG.out.same (Same.of_below HB1.out)).more HB1.out.size) (by have := small_len HS.out; omega)).mono ?_
      rintro e w2 ⟨q, c, rfl, hb2, hq, hc⟩
      have hi := G.topo_iff_cycle hc
      rw [HT.out] at hi
      have hne : c ≠ [] := by intro e; rw [e] at hi; simp at hi
      obtain ⟨Q, qc, rfl, hq1, hq2, _⟩ := hq.parts
      have hmq := maxLen_le hq2
      have hl0 : 0 < c.length := List.length_pos_iff.2 hne
      have b1 : ((c.length : Int) == 0) = false := by simp; exact hne
      have HB2 : Hid (Below w.heap.size w w2) := HB1.out.trans (hb2.mono HB1.out.size)
      obtain ⟨L, hL⟩ : ∃ L, c.length = L := ⟨_, rfl⟩
      rw [hL] at b1 hl0 hq1 ⊢
      clear hb2 hq hc hi hne hq2 hL
      go_wp2_with (first
        | (go_at_call 13; refine (awake_any _).mono ?_; rintro e w' ⟨rfl, hb⟩))
      go_ret
      exact ⟨rfl, HB2.out.trans (hb.mono HB2.out.size)⟩
    | some r =>
      have CT : Hid (Calls Try.prog 25 #[u] w fun e w' => ∃ v, e = .returned (.tuple #[v, .bool true]) ∧ Below w.heap.size w w' ∧ Ints w' w'.heap.size v (G.ints r)) :=
        hT.mono fun e w' ⟨v, h1, h2, h3⟩ => ⟨v, by rw [h1, ht]; rfl, h2, by rw [ht] at h3; exact h3⟩
      have HT := Lib.hid ht
      clear hT ht
      go_enter Try.func10, Try.ntmps10
      go_wp2_with (first
        | (go_at_call 12; refine (unhide CON).mono ?_; rintro e w' ⟨rfl, rfl⟩))
      refine (unhide CT).mono ?_
      rintro e w1 ⟨p, rfl, hb1, hp1⟩
      have HB1 := Lib.hid hb1; have HP1 := Lib.hid hp1
      clear hb1 hp1 CON CT
      go_wp2_with fail
      refine (Cycle_any u g w1 ((HG.out.same (Same.of_below HB1.out)).more HB1.out.size) (by have := small_len HS.out; omega)).mono ?_
      rintro e w2 ⟨q, c, rfl, hb2, hq, hc⟩
      have hi := G.topo_iff_cycle hc
      rw [HT.out] at hi
      have hne : c = [] := by simpa using hi.symm
      subst hne
      obtain ⟨Q, qc, rfl, hq1, hq2, _⟩ := hq.parts
      have hmq := maxLen_le hq2
      have HB2 : Hid (Below w.heap.size w w2) := HB1.out.trans (hb2.mono HB1.out.size)
      have hp2 : Ints w2 w2.heap.size p (G.ints r) := (HP1.out.same (Same.of_below hb2)).more hb2.size
      have HP2 := Lib.hid hp2
      have hgd := G.topo_good HT.out
      have con := After_any u p g r w2 ((HG.out.same (Same.of_below HB2.out)).more HB2.out.size) hp2 (by have := small_len HS.out; omega) hgd.1 hgd.2
      have CON := hide con
      clear hb2 hq hc hi hq2 hp2 hgd con
      simp only [List.length_nil]
      go_wp2_with fail
      refine (unhide CON).mono ?_
      rintro e w3 ⟨rfl, hb3⟩
      have HB3 : Hid (Below w.heap.size w w3) := HB2.out.trans (hb3.mono HB2.out.size)
      clear hb3 CON
      go_wp2_with (first
        | (go_at_call 13; refine (awake_any _).mono ?_; rintro e w' ⟨rfl, hb⟩))
      go_ret
      exact ⟨rfl, HB3.out.trans (hb.mono HB3.out.size)⟩
end Go.Proofs.Ytiebfnchimfjiaa
