/- digraph.Reach and its closure: the walks. -/
import Derived.Test.YtiebfnchimfjiaaRefReach
import Derived.Test.YtiebfnchimfjiaaDfs
import Derived.Laws.EntriesVeiled
namespace Go.Proofs.Ytiebfnchimfjiaa
open Go.RowKit Go.Deep

/-- What the closure finds: the graph, the marks (in block R), itself. -/
structure VEnv (w : World) (bg bo bv R n : Nat) (A : Option Addr) (c : Nat) (g : List (List Int)) : Prop where
  cg : w.cell? ⟨bg, 0, none⟩ = some (.slice A n c)
  co : w.cell? ⟨bo, 0, none⟩ = some (.slice (some ⟨R, 0, none⟩) n n)
  cv : w.cell? ⟨bv, 0, none⟩ = some (.func (.func 30) #[] #[.pointer (some ⟨bg, 0, none⟩), .pointer (some ⟨bo, 0, none⟩), .pointer (some ⟨bv, 0, none⟩)])
  rows : Rows2 w bg (.slice A n c) g
  o1 : bg < R
  o2 : R < bo
  o3 : bo < bv
  len : g.length = n
theorem VEnv.kept {w w' : World} {bg bo bv R n c : Nat} {A : Option Addr} {g : List (List Int)} (h : VEnv w bg bo bv R n A c g) (hg : w.grownBy w' (some R)) : VEnv w' bg bo bv R n A c g := by
  have h1 := h.o1; have h2 := h.o2; have h3 := h.o3
  refine ⟨hg.cell h.cg (by simp; omega), hg.cell h.co (by simp; omega), hg.cell h.cv (by simp; omega), h.rows.same ?_, h1, h2, h3, h.len⟩
  refine Same.grown hg ?_ ?_
  · have := World.block_lt_of_cell? w _ h.cg; simp at this; omega
  · intro k hk; injection hk with hk; omega

def VisitPost (w : World) (R : Nat) (g : List (List Int)) (v : Int) (o : Nat → Bool) (e : Ending) (w' : World) : Prop :=
  ∃ o', e = .returned (.tuple #[]) ∧ w.grownBy w' (some R) ∧ RowF w' R 4 g.length (fun b => .bool (o' b)) ∧ G.Vis g v o o'

set_option maxHeartbeats 1000000 in
theorem visit_any (bg bo bv R n c : Nat) (A : Option Addr) (g : List (List Int)) (N : Nat) : ∀ (v : Int) (o : Nat → Bool) (w : World), G.cnt o n < N →
    VEnv w bg bo bv R n A c g → RowF w R 4 n (fun b => .bool (o b)) →
    Calls Try.prog 30 #[.int .i64 v, .pointer (some ⟨bg, 0, none⟩), .pointer (some ⟨bo, 0, none⟩), .pointer (some ⟨bv, 0, none⟩)] w (VisitPost w R g v o) := by
  induction N with
  | zero => intro v o w h; exact absurd h (Nat.not_lt_zero _)
  | succ N ih =>
    intro v o w hN hE hR
    have IH := Lib.hid ih
    clear ih
    have hcg := hE.cg; have hco := hE.co; have hcv := hE.cv
    have HE := Lib.hid hE; have HR := Lib.hid hR
    clear hE hR
    by_cases hin : 0 ≤ v ∧ v < n
    · obtain ⟨q, rfl⟩ := ofNat_of hin.1
      have hqn : q < n := by omega
      have d1 : decide (0 ≤ (q : Int) ∧ (q : Int) < n) = true := by simpa using hin
      have hge := HR.out.get hqn
      have hfr := HR.out.free q
      clear hin
      cases ho : o q with
      | true =>
        rw [ho] at hge
        have HO := Lib.hid ho; clear ho
        go_enter Try.func30, Try.ntmps30
        go_wp2_with (go_at_call 31; refine (inside_any _ _ _ _ _).mono ?_; rintro e w' ⟨rfl, rfl⟩)
        refine bodyPost_ret (results_none rfl _ _ _) rfl ?_
        exact ⟨o, rfl, World.grownBy.refl _ _, by have := HE.out.len; rw [this]; exact HR.out, G.Vis.was HO.out⟩
      | false =>
        rw [ho] at hge
        have hr := row_eq (g := g) (a := q) (by have := HE.out.len; omega)
        obtain ⟨A', c', he, hc1, hc2, hrows⟩ := HE.out.rows.parts
        injection he with e1 e2 e3
        subst e1; subst e3
        obtain ⟨ad, u, rfl, hb, hcell, hI⟩ := hrows q _ hr
        obtain ⟨X, d, rfl, hd1, hd2, hels⟩ := hI.parts
        have hmx := maxLen_le hd2
        have HO := Lib.hid ho; have HL := Lib.hid e2; have HX := Lib.hid hels
        clear ho hr hrows hI hels e2 hc2 hd2 hc1
        obtain ⟨l, hl⟩ : ∃ l, l = G.row g q := ⟨_, rfl⟩
        rw [← hl] at hcell hd1 HX
        have HLR := Lib.hid hl; clear hl
        have o1 := HE.out.o1; have o2 := HE.out.o2; have o3 := HE.out.o3
        have k1 : (w.setCell ⟨R, q, none⟩ (.bool true)).cell? (ad.add q) = some (.slice X l.length d) :=
          (World.cell?_setCell_other _ _ _ _ (fun e => by have := congrArg Addr.block e; rw [block_of_add] at this; simp at this; omega)).trans hcell
        go_enter Try.func30, Try.ntmps30
        go_wp2_with (go_at_call 31; refine (inside_any _ _ _ _ _).mono ?_; rintro e w' ⟨rfl, rfl⟩)
        obtain ⟨w1, hw1⟩ : ∃ w1, w1 = w.setCell ⟨R, q, none⟩ (.bool true) := ⟨_, rfl⟩
        have hS : ∃ o', RowF w1 R 4 n (fun b => .bool (o' b)) ∧ w.grownBy w1 (some R) ∧ G.Mid g q (l.take 0) o o' ∧ G.cnt o' n < N := by
          refine ⟨fun x => if x = q then true else o x, ?_, ?_, G.Mid.start (by have := HE.out.len; omega) HO.out (fun _ => rfl), ?_⟩
          · rw [hw1]; refine (HR.out.store q _).congr fun b _ => ?_
            by_cases e : b = q <;> simp [e]
          · rw [hw1]; exact grownBy_setCell w R q _
          · have := G.cnt_lt (o := o) (o' := fun x => if x = q then true else o x) (n := n) (fun x _ hx => by simp [hx]) hqn HO.out (by simp)
            omega
        have HS := Lib.hid hS
        rw [← hw1]
        clear hS hw1 k1 hge hfr hcell hcg hco hcv
        go_loopw [25] (fun i wr => ∃ k : Nat, k ≤ l.length ∧ i = .int .i64 k ∧ Hid (∃ o', RowF wr R 4 n (fun b => .bool (o' b)) ∧ w.grownBy wr (some R) ∧ G.Mid g q (l.take k) o o' ∧ G.cnt o' n < N)) (fun i _ => l.length - (intOf i).toNat)
        case atStart => exact ⟨0, Nat.zero_le _, rfl, HS.out⟩
        case round =>
          clear HS
          obtain ⟨k, hk, rfl, hI⟩ := hrel
          obtain ⟨o', hR', hG, hM, hC⟩ := hI.out
          clear hI
          have hE' := HE.out.kept hG
          by_cases hlt : k < l.length
          · obtain ⟨xd, rfl, hxb, hxc⟩ := HX.out k _ (List.getElem?_eq_getElem hlt)
            have hxc' : wr.cell? (xd.add k) = some (.int .i64 l[k]) := hG.cell hxc (by rw [block_of_add]; simp; omega)
            have hcg := hE'.cg; have hco := hE'.co; have hcv := hE'.cv
            have con := IH.out l[k] o' wr hC hE' hR'
            have hlk : l[k] ∈ G.row g q := by rw [← HLR.out]; exact List.getElem_mem hlt
            have hts : l.take (k + 1) = l.take k ++ [l[k]] := by rw [List.take_succ_eq_append_getElem hlt]
            obtain ⟨a, ha⟩ : ∃ a, l[k] = a := ⟨_, rfl⟩
            rw [ha] at hxc' con hlk hts
            have CON := hide con
            have HM := Lib.hid hM; have HG := Lib.hid hG; have HLK := Lib.hid hlk; have HTS := Lib.hid hts; have HC := Lib.hid hC
            clear con hM hG hlk ha hE' hR' hxc hts hC
            go_wp2_with (go_at_call 30; refine (unhide CON).mono ?_; rintro e w3 ⟨o3, rfl, hg3, hR3, hV3⟩)
            have H3 := Lib.hid (And.intro hg3 (And.intro hR3 hV3))
            clear hg3 hR3 hV3
            go_wp2_with fail
            go_roundw
            case rel =>
              obtain ⟨hg3, hR3, hV3⟩ := H3.out
              rw [HE.out.len] at hR3
              refine ⟨k + 1, by omega, by go_num, o3, hR3, HG.out.trans hg3, ?_, ?_⟩
              · rw [HTS.out]; exact HM.out.step HLK.out hV3
              · exact Nat.lt_of_le_of_lt (G.cnt_mono fun x hx => hV3.mono x (by rw [HE.out.len]; exact hx)) HC.out
            case measure => simp [intOf]; omega
          · have HM := Lib.hid hM; have HG := Lib.hid hG; have HR' := Lib.hid hR'
            clear hM hG hR' hE' hC
            go_wp2_with fail
            go_end0
            refine ⟨o', rfl, HG.out, by rw [HE.out.len]; exact HR'.out, ?_⟩
            have h := HM.out
            rw [List.take_of_length_le (by omega), HLR.out] at h
            exact h.fin (by rw [HE.out.len]; exact hqn)
    · have d1 : decide (0 ≤ v ∧ v < n) = false := by simp; omega
      have hin' := Lib.hid hin
      clear hin
      go_enter Try.func30, Try.ntmps30
      go_wp2_with (go_at_call 31; refine (inside_any _ _ _ _ _).mono ?_; rintro e w' ⟨rfl, rfl⟩)
      refine bodyPost_ret (results_none rfl _ _ _) rfl ?_
      exact ⟨o, rfl, World.grownBy.refl _ _, by have := HE.out.len; rw [this]; exact HR.out, G.Vis.out (fun x e hx => by have := HE.out.len; have := hin'.out; omega)⟩

set_option maxHeartbeats 1000000 in
theorem Reach_any (v u : Value) (g : List (List Int)) (fr : List Int) (w : World) (hg : Rows2 w w.heap.size v g) (hf : Ints w w.heap.size u fr) (hn : g.length ≤ 1000000) :
    Calls Try.prog 15 #[v, u] w (BoolsPost w g.length fun o => ∀ b, b < g.length → (o b = true ↔ G.Rch g fr b)) := by
  obtain ⟨A, c, rfl, hc1, hc2, hrows⟩ := hg.parts
  have hm1 := maxLen_le hc2
  obtain ⟨n, e⟩ : ∃ n, g.length = n := ⟨_, rfl⟩
  have HN := Lib.hid e
  obtain ⟨X, d, rfl, hd1, hd2, hels⟩ := hf.parts
  have hm2 := maxLen_le hd2
  have HE := Lib.hid hels
  rw [e] at hn hc1 hg ⊢
  have HG := Lib.hid hg
  clear e hrows hg hc2 hels hf hd2
  have hmk := fun W => run_make_row' (P := Try.prog) 27 4 (.bool false) 1 Try.underlying27 info4 rfl .i64 .i64 n (by omega) (by omega) W
  go_enter Try.func15, Try.ntmps15
  go_wp2_with fail
  obtain ⟨w1, hw1⟩ : ∃ w1, w1 = ((((w.alloc (.cells #[.slice A n c] 22)).alloc (.cells (madeCells #[.bool false] n) 4)).alloc (.cells #[.slice (some ⟨w.heap.size + 1, 0, none⟩) n n] 27)).alloc
      (.cells #[.func (.func 30) #[] #[.pointer (some ⟨w.heap.size, 0, none⟩), .pointer (some ⟨w.heap.size + 1 + 1, 0, none⟩), .pointer (some ⟨w.heap.size + 1 + 1 + 1, 0, none⟩)]] 40)) := ⟨_, rfl⟩
  have hS : VEnv w1 w.heap.size (w.heap.size + 1 + 1) (w.heap.size + 1 + 1 + 1) (w.heap.size + 1) n A c g ∧ RowF w1 (w.heap.size + 1) 4 n (fun _ => .bool false) ∧ Below w.heap.size w w1 := by
    rw [hw1]
    refine ⟨⟨?_, ?_, ?_, ?_, by omega, by omega, by omega, HN.out⟩, ?_, ?_⟩
    · exact ((((Row.new w 22 [.slice A n c]).alloc _).alloc _).alloc _).cell 0
    · have := ((Row.new ((w.alloc (.cells #[.slice A n c] 22)).alloc (.cells (madeCells #[.bool false] n) 4)) 27 [.slice (some ⟨w.heap.size + 1, 0, none⟩) n n]).alloc
        (.cells #[.func (.func 30) #[] #[.pointer (some ⟨w.heap.size, 0, none⟩), .pointer (some ⟨w.heap.size + 1 + 1, 0, none⟩), .pointer (some ⟨w.heap.size + 1 + 1 + 1, 0, none⟩)]] 40)).cell 0
      simpa only [World.size_alloc, List.getElem?_cons_zero] using this
    · have := (Row.new (((w.alloc (.cells #[.slice A n c] 22)).alloc (.cells (madeCells #[.bool false] n) 4)).alloc (.cells #[.slice (some ⟨w.heap.size + 1, 0, none⟩) n n] 27)) 40
        [.func (.func 30) #[] #[.pointer (some ⟨w.heap.size, 0, none⟩), .pointer (some ⟨w.heap.size + 1 + 1, 0, none⟩), .pointer (some ⟨w.heap.size + 1 + 1 + 1, 0, none⟩)]]).cell 0
      simpa only [World.size_alloc, List.getElem?_cons_zero] using this
    · refine HG.out.same (Same.of_below ?_)
      exact ((((Below.refl _ _).alloc (Nat.le_refl _) _).alloc (by simp) _).alloc (by simp; omega) _).alloc (by simp; omega) _
    · have := Row.alloc (Row.alloc (RowF.made (w.alloc (.cells #[.slice A n c] 22)) 4 (.bool false) n) (.cells #[.slice (some ⟨w.heap.size + 1, 0, none⟩) n n] 27))
        (.cells #[.func (.func 30) #[] #[.pointer (some ⟨w.heap.size, 0, none⟩), .pointer (some ⟨w.heap.size + 1 + 1, 0, none⟩), .pointer (some ⟨w.heap.size + 1 + 1 + 1, 0, none⟩)]] 40)
      simp only [World.size_alloc] at this
      exact this
    · exact ((((Below.refl _ _).alloc (Nat.le_refl _) _).alloc (by simp) _).alloc (by simp; omega) _).alloc (by simp; omega) _
  have HS := Lib.hid hS
  rw [← hw1]
  clear hS hw1 hmk
  go_loopw [15] (fun i wr => ∃ k : Nat, k ≤ fr.length ∧ i = .int .i64 k ∧ Hid (∃ o, RowF wr (w.heap.size + 1) 4 n (fun b => .bool (o b)) ∧ w1.grownBy wr (some (w.heap.size + 1)) ∧ G.All g (fr.take k) o)) (fun i _ => fr.length - (intOf i).toNat)
  case atStart => exact ⟨0, Nat.zero_le _, rfl, fun _ => false, HS.out.2.1, World.grownBy.refl _ _, G.All.start fun _ => rfl⟩
  case round =>
    obtain ⟨k, hk, rfl, hI⟩ := hrel
    obtain ⟨o, hR, hG, hA⟩ := hI.out
    clear hI
    have hE' := HS.out.1.kept hG
    have hBl : Below w.heap.size w1 wr := (Below.refl _ _).grown hG HS.out.2.2.size (fun k hk => by injection hk with hk; omega)
    have hcg := hE'.cg; have hco := hE'.co; have hcv := hE'.cv
    by_cases hlt : k < fr.length
    · obtain ⟨xd, rfl, hxb, hxc⟩ := HE.out k _ (List.getElem?_eq_getElem hlt)
      have hxc' : wr.cell? (xd.add k) = some (.int .i64 fr[k]) := ((Same.trans (Same.of_below HS.out.2.2) (Same.of_below hBl)).cell (by rw [block_of_add]; exact hxb)).trans hxc
      have con := visit_any _ _ _ _ n c A g (G.cnt o n + 1) fr[k] o wr (Nat.lt_succ_self _) hE' hR
      have hts : fr.take (k + 1) = fr.take k ++ [fr[k]] := by rw [List.take_succ_eq_append_getElem hlt]
      obtain ⟨a, ha⟩ : ∃ a, fr[k] = a := ⟨_, rfl⟩
      rw [ha] at hxc' con hts
      have CON := hide con
      have HA := Lib.hid hA; have HGr := Lib.hid hG; have HTS := Lib.hid hts
      clear con hA hG ha hE' hR hxc hts hBl
      go_wp2_with (go_at_call 30; refine (unhide CON).mono ?_; rintro e w3 ⟨o3, rfl, hg3, hR3, hV3⟩)
      have H3 := Lib.hid (And.intro hg3 (And.intro hR3 hV3))
      clear hg3 hR3 hV3
      go_wp2_with fail
      go_roundw
      case rel =>
        obtain ⟨hg3, hR3, hV3⟩ := H3.out
        rw [HN.out] at hR3
        exact ⟨k + 1, by omega, by go_num, o3, hR3, HGr.out.trans hg3, by rw [HTS.out]; exact HA.out.step hV3⟩
      case measure => simp [intOf]; omega
    · have HA := Lib.hid hA; have HR := Lib.hid hR; have HB := Lib.hid hBl
      clear hA hR hG hE' hBl
      go_wp2_with fail
      go_ret
      have h := HA.out
      rw [List.take_of_length_le (by omega)] at h
      refine ⟨_, o, rfl, HS.out.2.2.trans HB.out, ?_, fun b hb => h.fin b (by rw [HN.out]; exact hb)⟩
      have := Sl.of_rowF HR.out HR.out.lt (by unfold maxLen; omega)
      simpa [Bools, Function.comp_def] using this
end Go.Proofs.Ytiebfnchimfjiaa
