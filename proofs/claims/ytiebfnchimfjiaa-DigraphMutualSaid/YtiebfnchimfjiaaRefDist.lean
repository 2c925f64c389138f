/- ref.Distances: the walk. -/
import Derived.Test.YtiebfnchimfjiaaPaths
import Derived.Test.YtiebfnchimfjiaaBfs
namespace Go.Proofs.Ytiebfnchimfjiaa
open Go.RowKit Go.Deep

def IntsPost (w : World) (n : Nat) (R : (Nat → Int) → Prop) (e : Ending) (w' : World) : Prop :=
  ∃ v o, e = .returned v ∧ Below w.heap.size w w' ∧ Ints w' w'.heap.size v ((List.range n).map o) ∧ R o
def DistOf (g : List (List Int)) (fr : Int) (o : Nat → Int) : Prop :=
  ∀ b, b < g.length → (∃ s : Nat, fr = s ∧ s < g.length ∧ G.IsD g s b (o b)) ∨ (¬ (0 ≤ fr ∧ fr < g.length) ∧ o b = -1)
theorem DistOf.eq {g : List (List Int)} {fr : Int} {o o' : Nat → Int} (h : DistOf g fr o) (h' : DistOf g fr o') (b : Nat) (hb : b < g.length) : o b = o' b := by
  rcases h b hb with ⟨s, e, hs, h1⟩ | ⟨h1, h2⟩
  · rcases h' b hb with ⟨s', e', hs', h1'⟩ | ⟨h1', h2'⟩
    · obtain rfl : s = s' := by omega
      exact h1.eq h1'
    · omega
  · rcases h' b hb with ⟨s', e', hs', h1'⟩ | ⟨h1', h2'⟩
    · omega
    · omega

/-- A row of ints: what the slots hold. -/
def RowI (w : World) (R n : Nat) (o : Nat → Int) : Prop := RowF w R 3 n fun b => .int .i64 (o b)
theorem RowI.sl {w : World} {R n : Nat} {o : Nat → Int} (h : RowI w R n o) (hn : n ≤ maxLen) : Ints w w.heap.size (.slice (some ⟨R, 0, none⟩) n n) ((List.range n).map o) := by
  have := Sl.of_rowF h (RowF.lt h) hn
  simpa [Ints, Function.comp_def] using this
theorem RowI.store {w : World} {R n : Nat} {o o' : Nat → Int} (h : RowI w R n o) (i : Nat) (x : Int) (ho : ∀ b, b < n → o' b = if b = i then x else o b) : RowI (w.setCell ⟨R, i, none⟩ (.int .i64 x)) R n o' :=
  (RowF.store h i _).congr fun b hb => by rw [ho b hb]; split <;> rfl
theorem RowI.congr {w : World} {R n : Nat} {o o' : Nat → Int} (h : RowI w R n o) (ho : ∀ b, b < n → o b = o' b) : RowI w R n o' :=
  RowF.congr h fun b hb => by rw [ho b hb]

set_option maxHeartbeats 1000000 in
theorem RefDist_any (v : Value) (g : List (List Int)) (fr : Int) (w : World) (hg : Rows2 w w.heap.size v g) (hn : g.length ≤ 1000000) :
    Calls Try.prog 22 #[v, .int .i64 fr] w (IntsPost w g.length (DistOf g fr)) := by
  obtain ⟨A, c, rfl, hc1, hc2, hrows⟩ := hg.parts
  have hm1 := maxLen_le hc2
  obtain ⟨n, e⟩ : ∃ n, g.length = n := ⟨_, rfl⟩
  have HN := Lib.hid e
  rw [e] at hn hc1 hg ⊢
  have HG := Lib.hid hg
  clear e hrows hg hc2
  have hmk := fun W => run_make_row' (P := Try.prog) 23 3 (.int .i64 0) 8 Try.underlying23 info3 rfl .i64 .i64 n (by omega) (by omega) W
  go_enter Try.func22, Try.ntmps22
  go_wp2_with fail
  obtain ⟨w1, hw1⟩ : ∃ w1, w1 = w.alloc (.cells (madeCells #[.int .i64 0] n) 3) := ⟨_, rfl⟩
  have hS : RowI w1 w.heap.size n (fun b => if b < 0 then -1 else 0) ∧ Below w.heap.size w w1 := by
    rw [hw1]; exact ⟨RowF.made w 3 (.int .i64 0) n, (Below.refl _ _).alloc (Nat.le_refl _) _⟩
  have HS := Lib.hid hS
  rw [← hw1]
  clear hS hw1 hmk
  go_loopw [6] (fun i wr => ∃ k : Nat, k ≤ n ∧ i = .int .i64 k ∧ Hid (RowI wr w.heap.size n (fun b => if b < k then -1 else 0) ∧ Below w.heap.size w wr)) (fun i _ => n - (intOf i).toNat)
  case atStart => exact ⟨0, Nat.zero_le _, rfl, HS.out⟩
  case round =>
    clear HS
    obtain ⟨k, hk, rfl, hI⟩ := hrel
    obtain ⟨hR, hB⟩ := hI.out
    by_cases hlt : k < n
    · have hget := RowF.get hR hlt
      have hfr := RowF.free hR k
      have HR := Lib.hid hR; have HB := Lib.hid hB
      clear hR hB hI
      go_wp2_with fail
      go_roundw
      case rel => exact ⟨k + 1, by omega, by go_num, HR.out.store k (-1) (fun b _ => by by_cases e : b = k; · simp [e]
                                                                                        · simp [e]; congr 1; simp; omega), HB.out.setCell (Nat.le_refl _) _⟩
      case measure => simp [intOf]; omega
    · obtain rfl : k = n := by omega
      have HR := Lib.hid (hR.congr (o' := fun _ => -1) (fun b hb => by simp [hb])); have HB := Lib.hid hB
      clear hR hB hI
      by_cases h0 : 0 ≤ fr
      · by_cases h1 : fr < k
        · obtain ⟨s, rfl⟩ := ofNat_of h0
          have hsn : s < k := by omega
          have hget := RowF.get HR.out hsn
          have hfr := RowF.free HR.out s
          have d1 : decide ((s : Int) < 0) = false := by simp
          have d2 : decide ((k : Int) ≤ (s : Int)) = false := by simp; omega
          have d3 : decide (k ≤ s) = false := by simp; omega
          go_wp2_with fail
          obtain ⟨w2, hw2⟩ : ∃ w2, w2 = wr.setCell ⟨w.heap.size, s, none⟩ (.int .i64 0) := ⟨_, rfl⟩
          have hS : ∃ o, RowI w2 w.heap.size k o ∧ Below w.heap.size w w2 ∧ G.Lv g s 0 o := by
            rw [hw2]; exact ⟨fun b => if b = s then 0 else -1, HR.out.store s 0 (fun b _ => rfl), HB.out.setCell (Nat.le_refl _) _, G.Lv.start fun _ => rfl⟩
          have HS := Lib.hid hS
          rw [← hw2]
          clear hS hw2 hget hfr HR HB
          go_loopw [7] (fun i wr => ∃ d : Nat, d ≤ k ∧ i = .int .i64 d ∧ Hid (∃ o, RowI wr w.heap.size k o ∧ Below w.heap.size w wr ∧ G.Lv g s d o)) (fun i _ => k - (intOf i).toNat)
          case atStart => exact ⟨0, Nat.zero_le _, rfl, HS.out⟩
          case round =>
            clear HS
            obtain ⟨d, hd, rfl, hI⟩ := hrel
            by_cases hdn : d < k
            · go_wp2_with fail
              go_loopw [8] (fun i wr => ∃ a : Nat, a ≤ k ∧ i = .int .i64 a ∧ Hid (∃ o, RowI wr w.heap.size k o ∧ Below w.heap.size w wr ∧ G.LMid g s d a 0 o)) (fun i _ => k - (intOf i).toNat)
              case atStart => exact ⟨0, Nat.zero_le _, rfl, by obtain ⟨o, h1, h2, h3⟩ := hI.out; exact ⟨o, h1, h2, h3.mid⟩⟩
              case round =>
                clear hI
                obtain ⟨a, ha, rfl, hI⟩ := hrel
                by_cases han : a < k
                · go_wp2_with fail
                  go_loopw [9] (fun i wr => ∃ j : Nat, j ≤ k ∧ i = .int .i64 j ∧ Hid (∃ o, RowI wr w.heap.size k o ∧ Below w.heap.size w wr ∧ G.LMid g s d a j o)) (fun i _ => k - (intOf i).toNat)
                  case atStart => exact ⟨0, Nat.zero_le _, rfl, hI.out⟩
                  case round =>
                    clear hI
                    obtain ⟨j, hj, rfl, hI⟩ := hrel
                    obtain ⟨o, hR, hB, hM⟩ := hI.out
                    clear hI
                    have hga := RowF.get hR han
                    have HM := Lib.hid hM; have HB := Lib.hid hB
                    clear hM hB
                    by_cases hjn : j < k
                    · have hgj := RowF.get hR hjn
                      have hfj := RowF.free hR j
                      obtain ⟨oa, hoa⟩ : ∃ x, o a = x := ⟨_, rfl⟩
                      obtain ⟨oj, hoj⟩ : ∃ x, o j = x := ⟨_, rfl⟩
                      rw [hoa] at hga
                      rw [hoj] at hgj
                      have HOA := Lib.hid hoa; have HOJ := Lib.hid hoj
                      have HR := Lib.hid hR
                      clear hoa hoj hR
                      by_cases hod : oa = d
                      · have b1 : (oa == (d : Int)) = true := by simpa using hod
                        have HD := Lib.hid hod
                        clear hod
                        have con := edge_row _ g a j wr w.heap.size (HG.out.same (Same.of_below HB.out)) (by have := HN.out; omega)
                        have CON := hide con
                        clear con
                        cases he : decide ((j : Int) ∈ G.row g a) with
                        | false =>
                          rw [he] at CON
                          have HE := Lib.hid he
                          clear he
                          go_wp2_with (go_at_call 33; refine (unhide CON).mono ?_; rintro e w' ⟨rfl, rfl⟩)
                          go_roundw
                          case rel => exact ⟨j + 1, by omega, by go_num, o, HR.out, HB.out, HM.out.skip (.inl HE.out)⟩
                          case measure => simp [intOf]; omega
                        | true =>
                          rw [he] at CON
                          have HE := Lib.hid he
                          clear he
                          by_cases hneg : oj < 0
                          · have hoj1 : oj = -1 := by
                              rcases HM.out j (by have := HN.out; omega) with ⟨h1, _⟩ | ⟨q, _, h1, _⟩
                              · rw [← HOJ.out]; exact h1
                              · have := HOJ.out; omega
                            have HJ := Lib.hid hoj1
                            clear hoj1
                            go_wp2_with (go_at_call 33; refine (unhide CON).mono ?_; rintro e w' ⟨rfl, rfl⟩)
                            go_roundw
                            case rel =>
                              exact ⟨j + 1, by omega, by go_num, (fun b => if b = j then (d : Int) + 1 else o b), HR.out.store j ((d : Int) + 1) (fun _ _ => rfl), HB.out.setCell (Nat.le_refl _) _,
                                HM.out.add (by have := HN.out; omega) (by have := HN.out; omega) (by rw [HOA.out]; exact HD.out) HE.out (by rw [HOJ.out]; exact HJ.out) (fun _ => rfl)⟩
                            case measure => simp [intOf]; omega
                          · go_wp2_with (go_at_call 33; refine (unhide CON).mono ?_; rintro e w' ⟨rfl, rfl⟩)
                            go_roundw
                            case rel => exact ⟨j + 1, by omega, by go_num, o, HR.out, HB.out, HM.out.skip (.inr (by rw [HOJ.out]; omega))⟩
                            case measure => simp [intOf]; omega
                      · have b1 : (oa == (d : Int)) = false := by simpa using hod
                        have HD := Lib.hid hod
                        clear hod
                        go_wp2_with fail
                        go_roundw
                        case rel => exact ⟨a + 1, by omega, by go_num, o, HR.out, HB.out, HM.out.leave (by rw [HOA.out]; exact HD.out)⟩
                        case measure => simp [intOf]; omega
                    · have HR := Lib.hid hR
                      clear hR
                      go_wp2_with fail
                      go_roundw
                      case rel =>
                        exact ⟨a + 1, by omega, by go_num, o, HR.out, HB.out, by
                          obtain rfl : j = k := by omega
                          have := HN.out; subst this; exact HM.out.row⟩
                      case measure => simp [intOf]; omega
                · go_wp2_with fail
                  go_roundw
                  case rel =>
                    obtain ⟨o, h1, h2, h3⟩ := hI.out
                    exact ⟨d + 1, by omega, by go_num, o, h1, h2, by
                      obtain rfl : a = k := by omega
                      have := HN.out; subst this; exact h3.fin⟩
                  case measure => simp [intOf]; omega
            · go_wp2_with fail
              go_ret
              obtain ⟨o, h1, h2, h3⟩ := hI.out
              refine ⟨_, o, rfl, h2, h1.sl (by unfold maxLen; omega), fun b hb => .inl ⟨s, rfl, by have := HN.out; omega, ?_⟩⟩
              obtain rfl : d = k := by omega
              have := HN.out; subst this
              exact h3.fin b hb
        · have d1 : decide (fr < 0) = false := by simpa using h0
          have d2 : decide ((k : Int) ≤ fr) = true := by simp; omega
          go_wp2_with fail
          go_ret
          exact ⟨_, _, rfl, HB.out, HR.out.sl (by unfold maxLen; omega), fun b hb => .inr ⟨by have := HN.out; omega, rfl⟩⟩
      · have d1 : decide (fr < 0) = true := by simp; omega
        go_wp2_with fail
        go_ret
        exact ⟨_, _, rfl, HB.out, HR.out.sl (by unfold maxLen; omega), fun b hb => .inr ⟨by omega, rfl⟩⟩
end Go.Proofs.Ytiebfnchimfjiaa
