/- digraph.Reach once more: the row itself. -/
import Derived.Test.YtiebfnchimfjiaaReach
namespace Go.Proofs.Ytiebfnchimfjiaa
open Go.RowKit Go.Deep

/-- What Reach returns: a row of its own. -/
def RowPost (w : World) (n : Nat) (R : (Nat → Bool) → Prop) (e : Ending) (w' : World) : Prop :=
  ∃ B o, e = .returned (.slice (some ⟨B, 0, none⟩) n n) ∧ Below w.heap.size w w' ∧ RowF w' B 4 n (fun b => .bool (o b)) ∧ R o

set_option maxHeartbeats 1000000 in
theorem Reach_row (v u : Value) (g : List (List Int)) (fr : List Int) (w : World) (hg : Rows2 w w.heap.size v g) (hf : Ints w w.heap.size u fr) (hn : g.length ≤ 1000000) :
    Calls Try.prog 15 #[v, u] w (RowPost w g.length fun o => ∀ b, b < g.length → (o b = true ↔ G.Rch g fr b)) := by
  obtain ⟨A, c, rfl, hc1, hc2, hrows⟩ := hg.parts
  have hm1 := maxLen_le hc2
  obtain ⟨n, e⟩ : ∃ n, g.length = n := ⟨_, rfl⟩
  have HN := Lib.hid e
  obtain ⟨X, d, rfl, hd1, hd2, hels⟩ := hf.parts
  have hm2 := maxLen_le hd2
  have HE := Lib.hid hels
  rw [e] at hn hc1 hg ⊢
  have HG := Lib.hid hg
  clear e hrows hg hc2 hels hf hd2
  have hmk := fun W => run_make_row' (P := Try.prog) 27 4 (.bool false) 1 Try.underlying27 info4 rfl .i64 .i64 n (by omega) (by omega) W
  go_enter Try.func15, Try.ntmps15
  go_wp2_with fail
  obtain ⟨w1, hw1⟩ : ∃ w1, w1 = ((((w.alloc (.cells #[.slice A n c] 22)).alloc (.cells (madeCells #[.bool false] n) 4)).alloc (.cells #[.slice (some ⟨w.heap.size + 1, 0, none⟩) n n] 27)).alloc
      (.cells #[.func (.func 30) #[] #[.pointer (some ⟨w.heap.size, 0, none⟩), .pointer (some ⟨w.heap.size + 1 + 1, 0, none⟩), .pointer (some ⟨w.heap.size + 1 + 1 + 1, 0, none⟩)]] 40)) := ⟨_, rfl⟩
  have hS : VEnv w1 w.heap.size (w.heap.size + 1 + 1) (w.heap.size + 1 + 1 + 1) (w.heap.size + 1) n A c g ∧ RowF w1 (w.heap.size + 1) 4 n (fun _ => .bool false) ∧ Below w.heap.size w w1 := by
    rw [hw1]
    refine ⟨⟨?_, ?_, ?_, ?_, by omega, by omega, by omega, HN.out⟩, ?_, ?_⟩
    · exact ((((Row.new w 22 [.slice A n c]).alloc _).alloc _).alloc _).cell 0
    · have := ((Row.new ((w.alloc (.cells #[.slice A n c] 22)).alloc (.cells (madeCells #[.bool false] n) 4)) 27 [.slice (some ⟨w.heap.size + 1, 0, none⟩) n n]).alloc
        (.cells #[.func (.func 30) #[] #[.pointer (some ⟨w.heap.size, 0, none⟩), .pointer (some ⟨w.heap.size + 1 + 1, 0, none⟩), .pointer (some ⟨w.heap.size + 1 + 1 + 1, 0, none⟩)]] 40)).cell 0
      simpa only [World.size_alloc, List.getElem?_cons_zero] using this
    · have := (Row.new (((w.alloc (.cells #[.slice A n c] 22)).alloc (.cells (madeCells #[.bool false] n) 4)).alloc (.cells #[.slice (some ⟨w.heap.size + 1, 0, none⟩) n n] 27)) 40
        [.func (.func 30) #[] #[.pointer (some ⟨w.heap.size, 0, none⟩), .pointer (some ⟨w.heap.size + 1 + 1, 0, none⟩), .pointer (some ⟨w.heap.size + 1 + 1 + 1, 0, none⟩)]]).cell 0
      simpa only [World.size_alloc, List.getElem?_cons_zero] using this
    · refine HG.out.same (Same.of_below ?_)
      exact ((((Below.refl _ _).alloc (Nat.le_refl _) _).alloc (by simp) _).alloc (by simp; omega) _).alloc (by simp; omega) _
    · have := Row.alloc (Row.alloc (RowF.made (w.alloc (.cells #[.slice A n c] 22)) 4 (.bool false) n) (.cells #[.slice (some ⟨w.heap.size + 1, 0, none⟩) n n] 27))
        (.cells #[.func (.func 30) #[] #[.pointer (some ⟨w.heap.size, 0, none⟩), .pointer (some ⟨w.heap.size + 1 + 1, 0, none⟩), .pointer (some ⟨w.heap.size + 1 + 1 + 1, 0, none⟩)]] 40)
      simp only [World.size_alloc] at this
      exact this
    · exact ((((Below.refl _ _).alloc (Nat.le_refl _) _).alloc (by simp) _).alloc (by simp; omega) _).alloc (by simp; omega) _
  have HS := Lib.hid hS
  rw [← hw1]
  clear hS hw1 hmk
  go_loopw [15] (fun i wr => ∃ k : Nat, k ≤ fr.length ∧ i = .int .i64 k ∧ Hid (∃ o, RowF wr (w.heap.size + 1) 4 n (fun b => .bool (o b)) ∧ w1.grownBy wr (some (w.heap.size + 1)) ∧ G.All g (fr.take k) o)) (fun i _ => fr.length - (intOf i).toNat)
  case atStart => exact ⟨0, Nat.zero_le _, rfl, fun _ => false, HS.out.2.1, World.grownBy.refl _ _, G.All.start fun _ => rfl⟩
  case round =>
    obtain ⟨k, hk, rfl, hI⟩ := hrel
    obtain ⟨o, hR, hG, hA⟩ := hI.out
    clear hI
    have hE' := HS.out.1.kept hG
    have hBl : Below w.heap.size w1 wr := (Below.refl _ _).grown hG HS.out.2.2.size (fun k hk => by injection hk with hk; omega)
    have hcg := hE'.cg; have hco := hE'.co; have hcv := hE'.cv
    by_cases hlt : k < fr.length
    · obtain ⟨xd, rfl, hxb, hxc⟩ := HE.out k _ (List.getElem?_eq_getElem hlt)
      have hxc' : wr.cell? (xd.add k) = some (.int .i64 fr[k]) := ((Same.trans (Same.of_below HS.out.2.2) (Same.of_below hBl)).cell (by rw [block_of_add]; exact hxb)).trans hxc
      have con := visit_any _ _ _ _ n c A g (G.cnt o n + 1) fr[k] o wr (Nat.lt_succ_self _) hE' hR
      have hts : fr.take (k + 1) = fr.take k ++ [fr[k]] := by rw [List.take_succ_eq_append_getElem hlt]
      obtain ⟨a, ha⟩ : ∃ a, fr[k] = a := ⟨_, rfl⟩
      rw [ha] at hxc' con hts
      have CON := hide con
      have HA := Lib.hid hA; have HGr := Lib.hid hG; have HTS := Lib.hid hts
      clear con hA hG ha hE' hR hxc hts hBl
      go_wp2_with (go_at_call 30; refine (unhide CON).mono ?_; rintro e w3 ⟨o3, rfl, hg3, hR3, hV3⟩)
      have H3 := Lib.hid (And.intro hg3 (And.intro hR3 hV3))
      clear hg3 hR3 hV3
      go_wp2_with fail
      go_roundw
      case rel =>
        obtain ⟨hg3, hR3, hV3⟩ := H3.out
        rw [HN.out] at hR3
        exact ⟨k + 1, by omega, by go_num, o3, hR3, HGr.out.trans hg3, by rw [HTS.out]; exact HA.out.step hV3⟩
      case measure => simp [intOf]; omega
    · have HA := Lib.hid hA; have HR := Lib.hid hR; have HB := Lib.hid hBl
      clear hA hR hG hE' hBl
      go_wp2_with fail
      go_ret
      have h := HA.out
      rw [List.take_of_length_le (by omega)] at h
      exact ⟨_, o, rfl, HS.out.2.2.trans HB.out, HR.out, fun b hb => h.fin b (by rw [HN.out]; exact hb)⟩
end Go.Proofs.Ytiebfnchimfjiaa
