/- digraph.Distances: the walk. -/
import Derived.Test.YtiebfnchimfjiaaRefDist
import Derived.Test.YtiebfnchimfjiaaQueue
import Derived.Deep.Cut
namespace Go.Proofs.Ytiebfnchimfjiaa
open Go.RowKit Go.Deep

theorem run_pop (g off L cap : Nat) (W : World) : (Instr.slice 23 (.slice (some ⟨g, off, none⟩) (L + 1) cap) (some (.int .i64 1)) none none).run Try.prog W =
    .ok (.slice (some ⟨g, if cap = 1 then off else off + 1, none⟩) L (cap - 1)) W := by
  have hs : (sizeOf (Try.prog.elem 23)).run Try.prog W = .ok 1 W := by kernel_rfl
  have he : Try.prog.underlying 23 = some (.slice (Try.prog.elem 23)) := by kernel_rfl
  rw [run_slice_l (P := Try.prog) W 23 _ _ _ he .i64 1 (by omega) (by omega), hs]
  simp only [Result.andThen_ok, sliced]
  by_cases h : cap = 1 <;> simp [h, Addr.add]
theorem QAt.pop_any {w : World} {base g off cap : Nat} {e : TypeId} {x : Value} {xs : List Value} (h : QAt w base e g off cap (x :: xs)) :
    QAt w base e g (if cap = 1 then off else off + 1) (cap - 1) xs := by
  by_cases hc : cap = 1
  · subst hc
    have h2 := h.2.1
    have : xs = [] := List.eq_nil_of_length_eq_zero (by simpa using h2)
    subst this
    simpa using h.pop_last
  · rw [if_neg hc]; exact h.pop

def lenOf : Value → Nat | .slice _ n _ => n | _ => 0
def isM1 : Option Value → Nat | some (.int _ x) => if x = -1 then 1 else 0 | _ => 0
/-- How many of the first n cells of block R hold -1. -/
def unlW (w : World) (R : Nat) : Nat → Nat
  | 0 => 0
  | k + 1 => unlW w R k + isM1 (w.cell? ⟨R, k, none⟩)
theorem unlW_eq {w : World} {R n : Nat} {o : Nat → Int} (h : RowI w R n o) : unlW w R n = G.unl o n := by
  have : ∀ m, m ≤ n → unlW w R m = G.cntI o m := by
    intro m
    induction m with
    | zero => intro _; rfl
    | succ m ih =>
      intro hm
      simp only [unlW, G.cntI]
      rw [ih (by omega), RowF.get h (i := m) (by omega)]; rfl
  exact this n (Nat.le_refl _)

def nv (xs : List Nat) : List Value := xs.map fun b : Nat => .int .i64 (b : Int)

set_option maxHeartbeats 2000000 in
theorem Dist_any (v : Value) (g : List (List Int)) (fr : Int) (w : World) (hg : Rows2 w w.heap.size v g) (hn : g.length ≤ 1000000) :
    Calls Try.prog 21 #[v, .int .i64 fr] w (IntsPost w g.length (DistOf g fr)) := by
  obtain ⟨A, c, rfl, hc1, hc2, hrows⟩ := hg.parts
  have hm1 := maxLen_le hc2
  obtain ⟨n, e⟩ : ∃ n, g.length = n := ⟨_, rfl⟩
  have HN := Lib.hid e
  rw [e] at hn hc1 hg ⊢
  have HG := Lib.hid hrows
  clear e hrows hg hc2
  have hmk := fun W => run_make_row' (P := Try.prog) 23 3 (.int .i64 0) 8 Try.underlying23 info3 rfl .i64 .i64 n (by omega) (by omega) W
  obtain ⟨i0, hi0, hz0, hz1, hz2⟩ := info_parts info3
  go_enter Try.func21, Try.ntmps21
  go_wp2_with fail
  obtain ⟨w1, hw1⟩ : ∃ w1, w1 = w.alloc (.cells (madeCells #[.int .i64 0] n) 3) := ⟨_, rfl⟩
  have hS : RowI w1 w.heap.size n (fun b => if b < 0 then -1 else 0) ∧ Below w.heap.size w w1 := by
    rw [hw1]; exact ⟨RowF.made w 3 (.int .i64 0) n, (Below.refl _ _).alloc (Nat.le_refl _) _⟩
  have HS := Lib.hid hS
  rw [← hw1]
  clear hS hw1 hmk
  go_loopw [16] (fun i wr => ∃ k : Nat, k ≤ n ∧ i = .int .i64 k ∧ Hid (RowI wr w.heap.size n (fun b => if b < k then -1 else 0) ∧ Below w.heap.size w wr)) (fun i _ => n - (intOf i).toNat)
  case atStart => exact ⟨0, Nat.zero_le _, rfl, HS.out⟩
  case round =>
    clear HS
    obtain ⟨k, hk, rfl, hI⟩ := hrel
    obtain ⟨hR, hB⟩ := hI.out
    by_cases hlt : k < n
    · have hget := RowF.get hR hlt
      have hfr := RowF.free hR k
      have HR := Lib.hid hR; have HB := Lib.hid hB
      clear hR hB hI
      go_wp2_with fail
      go_roundw
      case rel => exact ⟨k + 1, by omega, by go_num, HR.out.store k (-1) (fun b _ => by by_cases e : b = k; · simp [e]
                                                                                        · simp [e]; congr 1; simp; omega), HB.out.setCell (Nat.le_refl _) _⟩
      case measure => simp [intOf]; omega
    · obtain rfl : k = n := by omega
      have HR := Lib.hid (hR.congr (o' := fun _ => -1) (fun b hb => by simp [hb])); have HB := Lib.hid hB
      clear hR hB hI
      by_cases hin : 0 ≤ fr ∧ fr < k
      · obtain ⟨s, rfl⟩ := ofNat_of hin.1
        have hsn : s < k := by omega
        have hget := RowF.get HR.out hsn
        have hfr := RowF.free HR.out s
        have hsz := RowF.lt HR.out
        have HIN := Lib.hid hin
        clear hin
        go_wp2_with (go_at_call 31; refine (inside_yes _ _ _ _ _ HIN.out).mono ?_; rintro e w' ⟨rfl, rfl⟩)
        obtain ⟨w2, hw2⟩ : ∃ w2, w2 = (wr.setCell ⟨w.heap.size, s, none⟩ (.int .i64 0)).alloc (.cells #[.int .i64 s] 3) := ⟨_, rfl⟩
        have hS : ∃ o, RowI w2 w.heap.size k o ∧ Below w.heap.size w w2 ∧ G.Bfs g s 0 [s] o ∧ QAt w2 (w.heap.size + 1) 3 wr.heap.size 0 1 (nv [s]) := by
          rw [hw2]
          refine ⟨fun b => if b = s then 0 else -1, Row.alloc (HR.out.store s 0 (fun b _ => rfl)) _, (HB.out.setCell (Nat.le_refl _) _).alloc (by simp [World.setCell]; omega) _, G.Bfs.start (by have := HN.out; omega) (fun _ => rfl), ?_⟩
          have := QAt.new (base := w.heap.size + 1) (wr.setCell ⟨w.heap.size, s, none⟩ (.int .i64 0)) 3 (.int .i64 s) (by simp [World.setCell]; omega)
          simpa [World.setCell, nv] using this
        have HS := Lib.hid hS
        rw [← hw2]
        obtain ⟨g0, hg0⟩ : ∃ g0, g0 = wr.heap.size := ⟨_, rfl⟩
        rw [← hg0] at HS ⊢
        clear hS hw2 hget hfr HR HB hsz hg0
        go_loopw [7] (fun t wr => ∃ (xs : List Nat) (g1 off cap L : Nat), t = .slice (some ⟨g1, off, none⟩) L cap ∧ L ≤ cap ∧ cap ≤ 9223372036854775807 ∧ Hid (L = xs.length ∧ ∃ o d, RowI wr w.heap.size k o ∧ Below w.heap.size w wr ∧ G.Bfs g s d xs o ∧ QAt wr (w.heap.size + 1) 3 g1 off cap (nv xs) ∧ 2 * G.unl o k + xs.length ≤ 2 * k + 1)) (fun t wr => 2 * unlW wr w.heap.size k + lenOf t)
        case atStart =>
          obtain ⟨o, h1, h2, h3, h4⟩ := HS.out
          exact ⟨[s], g0, 0, 1, 1, rfl, by omega, by omega, rfl, o, 0, h1, h2, h3, h4, by have := G.unl_le o k; simp; omega⟩
        case round =>
          clear HS
          obtain ⟨xs, g1, off, cap, L, rfl, hLc, hcm, hI⟩ := hrel
          obtain ⟨hL, o, d, hR, hB, hF, hQ, hms⟩ := hI.out
          clear hI
          cases xs with
          | nil =>
            subst hL
            have HR := Lib.hid hR; have HB := Lib.hid hB; have HF := Lib.hid hF
            clear hR hB hF hQ hms
            go_wp2_with fail
            go_ret
            exact ⟨_, o, rfl, HB.out, HR.out.sl (by unfold maxLen; omega), fun b hb => .inl ⟨s, rfl, by have := HN.out; omega, HF.out.fin (by have := HN.out; omega) b hb⟩⟩
          | cons v rest =>
            obtain ⟨M, hM⟩ : ∃ M, M = rest.length := ⟨_, rfl⟩
            obtain rfl : L = M + 1 := by rw [hL, hM]; rfl
            have hv := hF.lab v (by simp)
            have hvk : v < k := by have := hv.1; have := HN.out; omega
            have hhead : wr.cell? ⟨g1, off, none⟩ = some (.int .i64 v) := hQ.cell (i := 0) (by simp [nv])
            have hQ2 := QAt.pop_any hQ
            have hsl := fun W => run_pop g1 off M cap W
            obtain ⟨off2, ho2⟩ : ∃ off2, (if cap = 1 then off else off + 1) = off2 := ⟨_, rfl⟩
            obtain ⟨cap2, hc2⟩ : ∃ cap2, cap - 1 = cap2 := ⟨_, rfl⟩
            rw [ho2, hc2] at hQ2
            simp only [ho2, hc2] at hsl
            have hMc : M ≤ cap2 := by omega
            have hcm2 : cap2 ≤ 9223372036854775807 := by omega
            have hre := row_eq (g := g) (a := v) hv.1
            obtain ⟨ad, u, rfl, hb, hcell, hV⟩ := HG.out v _ hre
            obtain ⟨X, dd, rfl, hd1, hd2, hels⟩ := hV.parts
            have hmx := maxLen_le hd2
            have hcell' : wr.cell? (ad.add v) = some (.slice X (G.row g v).length dd) := ((Same.of_below hB).cell (by rw [block_of_add]; exact hb)).trans hcell
            have HX := Lib.hid hels
            obtain ⟨l, hl⟩ : ∃ l, l = G.row g v := ⟨_, rfl⟩
            rw [← hl] at hcell' hd1 HX
            have HL := Lib.hid hl; have HM := Lib.hid hM
            have hIn : ∃ o, RowI wr w.heap.size k o ∧ Below w.heap.size w wr ∧ G.BMid g s v (l.take 0) rest o ∧ QAt wr (w.heap.size + 1) 3 g1 off2 cap2 (nv rest) ∧ 2 * G.unl o k + rest.length < 2 * unlW wr w.heap.size k + (M + 1) :=
              ⟨o, hR, hB, hF.pop, hQ2, by rw [unlW_eq hR]; omega⟩
            have HI := Lib.hid hIn
            obtain ⟨MM, hMM⟩ : ∃ MM, MM = 2 * unlW wr w.heap.size k + (M + 1) := ⟨_, rfl⟩
            have hMk : MM ≤ 2 * k + 1 := by rw [hMM, unlW_eq hR]; simp at hms; omega
            rw [← hMM] at HI
            have HMM := Lib.hid hMM
            clear hl hM hIn hMM hre hV hels hd2 hcell hQ hQ2 hR hB hF hv ho2 hc2 hL hms
            go_wp2_with fail
            clear hcell' hhead hsl
            go_loopw [46, 7] (fun i t wr => ∃ (j : Nat) (xs : List Nat) (g1 off cap L : Nat), j ≤ l.length ∧ i = .int .i64 j ∧ t = .slice (some ⟨g1, off, none⟩) L cap ∧ L ≤ cap ∧ cap ≤ 9223372036854775807 ∧
              Hid (L = xs.length ∧ ∃ o, RowI wr w.heap.size k o ∧ Below w.heap.size w wr ∧ G.BMid g s v (l.take j) xs o ∧ QAt wr (w.heap.size + 1) 3 g1 off cap (nv xs) ∧ 2 * G.unl o k + xs.length < MM)) (fun i _ _ => l.length - (intOf i).toNat)
            case atStart =>
              obtain ⟨o, h1, h2, h3, h4, h5⟩ := HI.out
              exact ⟨0, rest, g1, off2, cap2, M, Nat.zero_le _, rfl, rfl, hMc, hcm2, HM.out, o, h1, h2, h3, h4, h5⟩
            case round =>
              clear HI hMc hcm2 HM
              obtain ⟨j, xs, g2, off3, cap3, L, hj, rfl, rfl, hLc, hcm, hI⟩ := hrel
              obtain ⟨hL, o, hR, hB, hF, hQ, hlt⟩ := hI.out
              clear hI
              have HLL := Lib.hid hL; have HB := Lib.hid hB; have HF := Lib.hid hF; have HQ := Lib.hid hQ; have HLT := Lib.hid hlt
              clear hL hB hF hQ hlt
              by_cases hjl : j < l.length
              · obtain ⟨xd, rfl, hxb, hxc⟩ := HX.out j _ (List.getElem?_eq_getElem hjl)
                have hxc' : wr.cell? (xd.add j) = some (.int .i64 l[j]) := ((Same.of_below HB.out).cell (by rw [block_of_add]; exact hxb)).trans hxc
                have hts : l.take (j + 1) = l.take j ++ [l[j]] := by rw [List.take_succ_eq_append_getElem hjl]
                have hmem : l[j] ∈ G.row g v := by rw [← HL.out]; exact List.getElem_mem hjl
                obtain ⟨x, hx⟩ : ∃ x, l[j] = x := ⟨_, rfl⟩
                rw [hx] at hxc' hts hmem
                have HTS := Lib.hid hts; have HMEM := Lib.hid hmem
                clear hx hxc hts hmem
                by_cases hin : 0 ≤ x ∧ x < k
                · obtain ⟨y, rfl⟩ := ofNat_of hin.1
                  have hyk : y < k := by omega
                  have HIN := Lib.hid hin
                  clear hin
                  have hgy := RowF.get hR hyk
                  have hfy := RowF.free hR y
                  have hgv := RowF.get hR hvk
                  obtain ⟨oy, hoy⟩ : ∃ x, o y = x := ⟨_, rfl⟩
                  obtain ⟨ov, hov⟩ : ∃ x, o v = x := ⟨_, rfl⟩
                  rw [hoy] at hgy
                  rw [hov] at hgv
                  have hbd : 0 ≤ ov ∧ ov ≤ 1000000 := by
                    have h0 := HF.out.vo
                    have h1 := HF.out.bound
                    have := HN.out
                    omega
                  have HOY := Lib.hid hoy; have HOV := Lib.hid hov
                  have HR := Lib.hid hR
                  have hb0 := hbd.1; have hb1 := hbd.2
                  clear hoy hov hR hbd
                  by_cases hneg : oy < 0
                  · have hsz := RowF.lt HR.out
                    have hy1 : oy = -1 := by
                      rcases HF.out.snd y (by have := HN.out; omega) with h1 | ⟨q, h1, _⟩
                      · rw [← HOY.out]; exact h1
                      · have := HOY.out; omega
                    have HY := Lib.hid hy1
                    have hLn : L ≤ 3000000 := by have := HLL.out; have := HLT.out; omega
                    obtain ⟨w3, hw3⟩ : ∃ w3, w3 = wr.setCell ⟨w.heap.size, y, none⟩ (.int .i64 (ov + 1)) := ⟨_, rfl⟩
                    have hS : RowI w3 w.heap.size k (fun b => if b = y then ov + 1 else o b) ∧ Below w.heap.size w w3 ∧ QAt w3 (w.heap.size + 1) 3 g2 off3 cap3 (nv xs) ∧ w.heap.size < w3.heap.size := by
                      rw [hw3]; exact ⟨HR.out.store y (ov + 1) (fun _ _ => rfl), HB.out.setCell (Nat.le_refl _) _, HQ.out.far (by simp) _, by simpa [World.setCell] using hsz⟩
                    have HS := Lib.hid hS
                    have hsz3 := hS.2.2.2
                    have HW3 := Lib.hid hw3
                    clear hw3 hy1 hS
                    go_upto_region 19 with (go_at_call 31; refine (inside_yes _ _ _ _ _ HIN.out).mono ?_; rintro e w' ⟨rfl, rfl⟩)
                    rw [← HW3.out]
                    clear HW3 hgy hfy hgv hxc'
                    go_wp2_with (first
                      | (at_builtin; refine wpList_append_q _ rfl (.tmp 68) (.tmp 70) _ rfl (w.heap.size + 1) 3 i0 _ 8 Try.underlying23 hi0 hz0 hz1 hz2 rfl g2 off3 L cap3 (nv xs) rfl (by simp [nv, HLL.out]) (HS.out.2.2.1.alloc _) ⟨w3.heap.size, 0, none⟩ 1 (.int .i64 y) rfl (cell_one_new _ _ _) rfl (by unfold maxLen; omega) (by omega) (by simp; omega) ?_))
                    intro g4 off4 cap4 w4 hq4 hg4
                    have H4 := Lib.hid (And.intro hq4 hg4)
                    have hcap4 : L + 1 ≤ cap4 := by have := hq4.2.1; simp [nv] at this; have := HLL.out; omega
                    have hcap4' : cap4 ≤ 9223372036854775807 := maxLen_le hq4.2.2.1
                    clear hq4 hg4
                    go_wp2_with fail
                    go_roundw
                    case rel =>
                      obtain ⟨hq4, hg4⟩ := H4.out
                      have hgb : w.heap.size + 1 ≤ g2 := HS.out.2.2.1.1
                      refine ⟨j + 1, xs ++ [y], g4, off4, cap4, L + 1, by omega, by go_num, rfl, hcap4, hcap4', by simp [HLL.out], (fun b => if b = y then ov + 1 else o b), ?_, ?_, ?_, ?_, ?_⟩
                      · exact Row.grown (Row.alloc HS.out.1 _) hg4 (fun e => by injection e with e; omega)
                      · exact (HS.out.2.1.alloc (by omega) _).grown hg4 (by simp; omega) (fun q hq => by injection hq with hq; omega)
                      · rw [HTS.out]
                        exact HF.out.add (by have := HN.out; omega) HMEM.out (by rw [HOY.out]; exact HY.out) (fun b => by rw [HOV.out])
                      · simpa [nv] using hq4
                      · have h1 := G.unl_add (o := o) (o' := fun b => if b = y then ov + 1 else o b) hyk (by rw [HOY.out]; exact HY.out) (by simp; omega) (fun b hb => by simp [hb])
                        have := HLT.out
                        simp; omega
                    case measure => simp [intOf]; omega
                  · go_wp2_with (go_at_call 31; refine (inside_yes _ _ _ _ _ HIN.out).mono ?_; rintro e w' ⟨rfl, rfl⟩)
                    go_roundw
                    case rel =>
                      refine ⟨j + 1, xs, g2, off3, cap3, L, by omega, by go_num, rfl, hLc, hcm, HLL.out, o, HR.out, HB.out, ?_, HQ.out, HLT.out⟩
                      rw [HTS.out]
                      exact HF.out.skip (fun z hz _ => by
                        obtain rfl : y = z := by omega
                        rw [HOY.out]; omega)
                    case measure => simp [intOf]; omega
                · have HIN := Lib.hid hin
                  have HR := Lib.hid hR
                  clear hin hR
                  go_wp2_with (go_at_call 31; refine (inside_no _ _ _ _ _ HIN.out).mono ?_; rintro e w' ⟨rfl, rfl⟩)
                  go_roundw
                  case rel =>
                    refine ⟨j + 1, xs, g2, off3, cap3, L, by omega, by go_num, rfl, hLc, hcm, HLL.out, o, HR.out, HB.out, ?_, HQ.out, HLT.out⟩
                    rw [HTS.out]
                    exact HF.out.skip (fun z hz hz' => absurd (And.intro (by omega) (by have := HN.out; omega)) HIN.out)
                  case measure => simp [intOf]; omega
              · have HR := Lib.hid hR
                clear hR
                go_wp2_with fail
                go_roundw
                case rel =>
                  have hF := HF.out
                  rw [List.take_of_length_le (by omega), HL.out] at hF
                  exact ⟨xs, g2, off3, cap3, L, rfl, hLc, hcm, HLL.out, o, o v, HR.out, HB.out, hF.fin, HQ.out, by have := HLT.out; omega⟩
                case measure =>
                  have h1 := HLT.out
                  have h2 := HMM.out
                  have h3 := HLL.out
                  rw [unlW_eq HR.out]
                  simp [lenOf]
                  omega
      · have HIN := Lib.hid hin
        clear hin
        go_wp2_with (go_at_call 31; refine (inside_no _ _ _ _ _ HIN.out).mono ?_; rintro e w' ⟨rfl, rfl⟩)
        go_ret
        exact ⟨_, _, rfl, HB.out, HR.out.sl (by unfold maxLen; omega), fun b hb => .inr ⟨by have := HN.out; have := HIN.out; omega, rfl⟩⟩
end Go.Proofs.Ytiebfnchimfjiaa
