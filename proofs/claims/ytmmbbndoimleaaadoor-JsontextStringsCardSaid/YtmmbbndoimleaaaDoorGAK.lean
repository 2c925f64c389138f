/- The law of strings of one byte. -/
import Derived.Test.YtmmbbndoimleaaaDoorGAJ

/- The law of strings of one byte. -/
namespace Go.Proofs.YtmmbbndoimleaaaDoor
open Go.RowKit

section
variable {P : Program} {md : Region.Mode} {Q : Exit → Act → World → Prop} {S : World → Prop}
/-- Three operations may come up. -/
theorem threeH {ops : Array Oper} {i j k : Nat} {o o' o'' : Oper} {fuel : Nat} {listed : Array Bool} {a : Act} {w : World} (hi : ops[i]? = some o) (hj : ops[j]? = some o') (hk : ops[k]? = some o'') (hr : Region.ready md ops listed = [i, j, k])
    (h : ∀ K' : Act → World → Prop, Shut (∀ a w, S w → (S w → wpAnyH P md ops Q S fuel (listed.setIfInBounds i true) a w) → K' a w) → if Region.wanted o (yielded ops a.tmps) = true then Oper.wp P o a w K' Q else K' (a.put o.dst undef) w)
    (h' : ∀ K' : Act → World → Prop, Shut (∀ a w, S w → (S w → wpAnyH P md ops Q S fuel (listed.setIfInBounds j true) a w) → K' a w) → if Region.wanted o' (yielded ops a.tmps) = true then Oper.wp P o' a w K' Q else K' (a.put o'.dst undef) w)
    (h'' : ∀ K' : Act → World → Prop, Shut (∀ a w, S w → (S w → wpAnyH P md ops Q S fuel (listed.setIfInBounds k true) a w) → K' a w) → if Region.wanted o'' (yielded ops a.tmps) = true then Oper.wp P o'' a w K' Q else K' (a.put o''.dst undef) w) :
    wpAnyH P md ops Q S (fuel + 1) listed a w := wpAnyH_ready hr (by simp) (AllReadyH.cons hi h (AllReadyH.cons hj h' (AllReadyH.cons hk h'' AllReadyH.nil)))
end
def oneB (b : Nat) : ByteArray := ⟨#[UInt8.ofNat b]⟩
def hexU (h : Nat) : UInt8 := UInt8.ofNat (if h < 10 then 48 + h else 55 + h)
theorem byte_idxU (h : Nat) (hh : h < 16) (k : IntKind) (W : World) :
    (Instr.index 9 (.string ⟨#[48, 49, 50, 51, 52, 53, 54, 55, 56, 57, 65, 66, 67, 68, 69, 70]⟩) (.int k (h : Int))).run Tryd.prog W = .ok (.int .u8 ((hexU h).toNat : Int)) W := by
  have : ∀ h : Fin 16, (Instr.index 9 (.string ⟨#[48, 49, 50, 51, 52, 53, 54, 55, 56, 57, 65, 66, 67, 68, 69, 70]⟩) (.int k ((h : Nat) : Int))).run Tryd.prog W = .ok (.int .u8 ((hexU h).toNat : Int)) W := by
    intro h
    obtain ⟨h, hh⟩ := h
    match h, hh with
    | 0, _ => go_simp; rfl
    | 1, _ => go_simp; rfl
    | 2, _ => go_simp; rfl
    | 3, _ => go_simp; rfl
    | 4, _ => go_simp; rfl
    | 5, _ => go_simp; rfl
    | 6, _ => go_simp; rfl
    | 7, _ => go_simp; rfl
    | 8, _ => go_simp; rfl
    | 9, _ => go_simp; rfl
    | 10, _ => go_simp; rfl
    | 11, _ => go_simp; rfl
    | 12, _ => go_simp; rfl
    | 13, _ => go_simp; rfl
    | 14, _ => go_simp; rfl
    | 15, _ => go_simp; rfl
    | n + 16, h => omega
  exact this ⟨h, hh⟩
def uniB (b : Nat) : ByteArray := ⟨#[34, 92, 117, 48, 48]⟩ ++ ⟨#[hexN (b / 16), hexU (b % 16)]⟩ ++ ⟨#[34]⟩
def oneD (b : Nat) : Dt := mkD 4 0 (oneB b) [] []
def oneT (S : ByteArray) (b : Nat) : Bool := decide (S.size ≤ 8) && (decide ((parseF S).2.1 = 0) && decide ((parseF S).2.2 = 0)) && sameF 10 (parseF S).1 (oneD b)
def oneTT (b : Nat) : Bool := decide (checkD (oneD b) = 0) && decide (jbF 1 (oneD b) ≤ 1000000000) && oneT (jtD false 1 (oneD b)) b && oneT (uniB b) b
theorem one_all : ∀ b : Fin 256, oneTT b.val = true := by decide +kernel

/-- The last store: the data and the fault lie in their boxes, the data still reads. -/
theorem strings_fin {w3 v vp wf : World} {gA gB lp m : Nat} {r : Dt} {a : Option Addr} {q : Nat} {a' : Option Addr} {q' : Nat} {L : List Value} {F0 F1 : Value} (hA : Row v gA 27 L) (hF : Row v gB 30 [F0, F1]) (hne : gA ≠ gB)
    (hB : Below w3.heap.size w3 v) (hLB : w3.heap.size ≤ gB) (hP : PZ lp none vp m r a q a' q') (hK : ∀ j, lp ≤ j → j < vp.heap.size → v.heap[j]? = vp.heap[j]?) (hBP : gB < lp ∨ vp.heap.size ≤ gB) (hs : vp.heap.size ≤ v.heap.size)
    (hwf : wf = (v.setCell ⟨gB, 0, none⟩ (.int .i64 0)).setCell ⟨gB, 1, none⟩ (.int .i64 0)) :
    Row wf gA 27 L ∧ Row wf gB 30 [.int .i64 0, .int .i64 0] ∧ Below w3.heap.size w3 wf ∧ Parts wf wf.heap.size m r a q a' q' := by
  subst hwf
  refine ⟨(hA.far (p := ⟨gB, 0, none⟩) hne _).far (p := ⟨gB, 1, none⟩) hne _, (hF.set_ 0 _).set_ 1 _, (hB.setCell (p := ⟨gB, 0, none⟩) hLB _).setCell (p := ⟨gB, 1, none⟩) hLB _, ?_⟩
  refine hP _ (by simp only [csize_set]; exact hs) fun k k1 k2 _ => ?_
  rw [Below.heap_setCell _ _ _ _ (by show k ≠ gB; omega), Below.heap_setCell _ _ _ _ (by show k ≠ gB; omega)]
  exact hK k k1 k2
theorem strings_same {W : World} {r : Dt} {a : Option Addr} {q : Nat} {a' : Option Addr} {q' m n : Nat} {T : ByteArray} (hT : T = oneB n) (hp : Parts W W.heap.size m r a q a' q') (h : sameF 10 r (oneD n) = true) (hm : m ≤ 10) :
    Calls Tryd.prog 9 #[.agg #[.int .i64 (kD r), .int .i64 (nD r), .string (sD r), .slice a (iD r).length q, .slice a' (mD r).length q'], .agg #[.int .i64 4, .int .i64 0, .string T, .slice none 0 0, .slice none 0 0]] W fun e w' => e = .returned (.bool true) ∧ Below W.heap.size W w' := by
  subst hT
  have := same_run 10 r a q a' q' (oneD n) none 0 none 0 W (hp.le hm) (jleaf_parts _ _ 9 _ _ _)
  rw [h] at this
  exact this

set_option maxRecDepth 20000 in
set_option maxHeartbeats 2000000 in
theorem Strings_law (b : Int) (hb : 0 ≤ b ∧ b < 256) (w : World) (ht : Tab w) :
    Calls Tryd.prog 6 #[.int .u8 b] w (JFine w) := by
  have HE := hide fun W (h : Below w.heap.size w W) => jexample_run W (tab_below ht h)
  have HT := hide fun W (h : Below w.heap.size w W) => tab_below ht h
  clear ht
  obtain ⟨n, rfl⟩ : ∃ n : Nat, b = n := ⟨b.toNat, by omega⟩
  have hn : n < 256 := by omega
  obtain ⟨c, rfl⟩ : ∃ c : UInt8, n = c.toNat := ⟨UInt8.ofNat n, by simp; omega⟩
  have hall := one_all ⟨c.toNat, hn⟩
  unfold oneTT oneT at hall
  simp only [Bool.and_eq_true, decide_eq_true_eq] at hall
  obtain ⟨⟨⟨hz, hbd⟩, ⟨s1, f1, f2⟩, m1⟩, ⟨s2, g1, g2⟩, m2⟩ := hall
  have hone : oneB c.toNat = ⟨#[c]⟩ := by unfold oneB; rw [UInt8.ofNat_toNat]
  have hcv : ∀ W : World, (convert 23 9 (.slice (some ⟨W.heap.size, 0, none⟩) 1 1)).run Tryd.prog (W.alloc (.cells #[.int .u8 (c.toNat : Int)] 5)) = .ok (.string (oneB c.toNat)) (W.alloc (.cells #[.int .u8 (c.toNat : Int)] 5)) := fun W => by
    have h : RowY (W.alloc (.cells #[.int .u8 (c.toNat : Int)] 5)) W.heap.size [c] := Row.new W _ _
    have := h.str 1 1 (Nat.le_refl _)
    rw [hone]; exact this
  have hp1 : ∀ (B : Nat) (W : World), Parts W B 1 (oneD c.toNat) none 0 none 0 := fun B W => jleaf_parts _ _ 0 _ _ _
  have HTX := hide fun W (h : Below w.heap.size w W) => jText_run 1 (oneD c.toNat) none 0 none 0 W (hp1 _ _) (leaf_fit rfl rfl) hbd (HT.out W h)
  obtain ⟨S1, hS1⟩ : ∃ S, S = jtD false 1 (oneD c.toNat) := ⟨_, rfl⟩
  obtain ⟨S2, hS2⟩ : ∃ S, S = uniB c.toNat := ⟨_, rfl⟩
  rw [← hS1, hz] at HTX
  rw [← hS1] at m1 s1 f1 f2
  rw [← hS2] at m2 s2 g1 g2
  have HP1 := hide fun W => Parse_run S1 W
  have HP2 := hide fun W => Parse_run S2 W
  obtain ⟨p1, hp1⟩ : ∃ p, p = parseF S1 := ⟨_, rfl⟩
  obtain ⟨p2, hp2⟩ : ∃ p, p = parseF S2 := ⟨_, rfl⟩
  rw [← hp1] at HP1 m1 f1 f2
  rw [← hp2] at HP2 m2 g1 g2
  obtain ⟨r1, e1, a1⟩ := p1
  obtain ⟨r2, e2, a2⟩ := p2
  have f1 : e1 = 0 := f1
  have f2 : a1 = 0 := f2
  have g1 : e2 = 0 := g1
  have g2 : a2 = 0 := g2
  subst f1 f2 g1 g2
  have HM1 := hide m1; have HM2 := hide m2
  have HU := hide hS2
  unfold ParsePost datV datCs at HP1 HP2
  obtain ⟨T, hT⟩ : ∃ T, T = oneB c.toNat := ⟨_, rfl⟩
  have hTX : ∀ W, Below w.heap.size w W → Calls Tryd.prog 10 #[.agg #[.int .i64 4, .int .i64 0, .string T, .slice none 0 0, .slice none 0 0]] W fun e w' => e = .returned (.tuple #[.string S1, .int .i64 0]) ∧ Below W.heap.size W w' := fun W h => by
    rw [hT]; exact HTX.out W h
  have HTY := hide hTX
  rw [← hT] at hcv
  have HTT := Lib.hid hT
  clear hTX HTX hT m1 m2 hS1 hS2 hp1 hp2 hone hz hbd
  go_enter Tryd.func6, Tryd.ntmps6
  go_wp2_with fail
  refine (HTY.out _ ((Below.refl _ _).alloc (Nat.le_refl _) _)).mono ?_; rintro e w1 ⟨rfl, hB1⟩
  have HB1 := hide (((Below.refl w.heap.size w).alloc (Nat.le_refl _) (.cells #[.int .u8 (c.toNat : Int)] 5)).trans (hB1.mono (by simp)))
  clear hB1 HTY
  go_wp2_with fail
  refine (HP1.out _).mono ?_; rintro e w2 ⟨b2, q2, b2', q2', rfl, hP2, hB2⟩
  have HB2 := hide (HB1.out.trans (hB2.mono HB1.out.size))
  have HP2' := hide hP2
  clear hP2 hB2 HB1 HP1
  go_upto_region 4 with fail
  obtain ⟨w3, g3, f3, e1, e2, e3, hB3, hR3, hF3⟩ := boxDF w2 (kD r1) (nD r1) (sD r1) (.slice b2 (iD r1).length q2) (.slice b2' (mD r1).length q2') 0 0
  rw [e1, e2, show g3 + 1 = f3 by omega]
  have HB3 := hide (HB2.out.trans (hB3.mono HB2.out.size))
  have HR3 := hide (And.intro hR3 hF3)
  have HP3 := hide (HP2'.out.parts.turn (Same.of_below hB3) hB3.size)
  clear e1 e2 e3 hB3 hR3 hF3 HB2 HP2'
  obtain ⟨hi, hhi⟩ : ∃ h, h = c.toNat / 16 := ⟨_, rfl⟩
  obtain ⟨lo, hlo⟩ : ∃ h, h = c.toNat % 16 := ⟨_, rfl⟩
  have e1 : ((c.toNat : Nat) : Int) / 16 = (hi : Int) := by omega
  have e2 : ((c.toNat : Nat) : Int).tmod 16 = (lo : Int) := by rw [Int.tmod_eq_emod_of_nonneg (by omega)]; omega
  have e4 : IntKind.u8.wrap (hi : Int) = (hi : Int) := by rw [IntKind.wrap_u8]; omega
  have l1 : hi < 16 := by omega
  have l2 : lo < 16 := by omega
  have hs1 := fun W => byte_idx hi l1 .u8 W
  have hs2 := fun W => byte_idxU lo l2 .u8 W
  have hSS : S2 = ⟨#[34, 92, 117, 48, 48]⟩ ++ ⟨#[hexN hi, hexU lo]⟩ ++ ⟨#[34]⟩ := by rw [HU.out, hhi, hlo]; rfl
  have s1b : S1.size + 1 ≤ 10 := by omega
  have s2b : (⟨#[34, 92, 117, 48, 48]⟩ ++ ⟨#[hexN hi, hexU lo]⟩ ++ ⟨#[34]⟩ : ByteArray).size + 1 ≤ 10 := by rw [← hSS]; omega
  rw [hSS] at HP2
  clear hhi hlo
  obtain ⟨v0, hv0⟩ : ∃ W, W = w3.drew := ⟨_, rfl⟩
  have hB : Below w3.heap.size w3 v0 := by rw [hv0]; exact (Below.refl _ _).drew
  refine wp_region_any (by kernel_rfl) (wpAny_of_held (S := fun _ => True) _ _ _ _ ?_)
  have hH : True := trivial
  change wpAnyH _ _ _ _ _ _ _ _ w3.drew
  rw [← hv0]
  clear hv0
  refine takeH (i := 0) (v := ?_) rfl (by kernel_rfl) (by kernel_rfl) (by kernel_rfl) (fun _ _ _ h => h) (Or.inl ⟨by rfl, ?_⟩) hH ?_
  rotate_left
  · (intro w hSw; (try dsimp only at hSw); go_simp; try with_reducible rfl)
  simp only [Act.put, List.setIfInBounds_toArray, List.set_cons_zero, List.set_cons_succ]
  refine takeH (i := 1) (v := ?_) rfl (by kernel_rfl) (by kernel_rfl) (by kernel_rfl) (fun _ _ _ h => h) (Or.inl ⟨by rfl, ?_⟩) hH ?_
  rotate_left
  · (intro w hSw; (try dsimp only at hSw); go_simp; try with_reducible rfl)
  simp only [Act.put, List.setIfInBounds_toArray, List.set_cons_zero, List.set_cons_succ]
  refine takeH (i := 2) (v := ?_) rfl (by kernel_rfl) (by kernel_rfl) (by kernel_rfl) (fun _ _ _ h => h) (Or.inl ⟨by rfl, ?_⟩) hH ?_
  rotate_left
  · (intro w hSw; (try dsimp only at hSw); go_simp; try with_reducible rfl)
  simp only [Act.put, List.setIfInBounds_toArray, List.set_cons_zero, List.set_cons_succ]
  refine takeH (i := 3) (v := ?_) rfl (by kernel_rfl) (by kernel_rfl) (by kernel_rfl) (fun _ _ _ h => h) (Or.inl ⟨by rfl, ?_⟩) hH ?_
  rotate_left
  · (intro w hSw; (try dsimp only at hSw); go_simp; try with_reducible rfl)
  simp only [Act.put, List.setIfInBounds_toArray, List.set_cons_zero, List.set_cons_succ]
  refine takeH (i := 4) (v := ?_) rfl (by kernel_rfl) (by kernel_rfl) (by kernel_rfl) (fun _ _ _ h => h) (Or.inl ⟨by rfl, ?_⟩) hH ?_
  rotate_left
  · (intro w hSw; (try dsimp only at hSw); go_simp; try with_reducible rfl)
  simp only [Act.put, List.setIfInBounds_toArray, List.set_cons_zero, List.set_cons_succ]
  refine takeH (i := 5) (v := ?_) rfl (by kernel_rfl) (by kernel_rfl) (by kernel_rfl) (fun _ _ _ h => h) (Or.inl ⟨by rfl, ?_⟩) hH ?_
  rotate_left
  · (intro w hSw; (try dsimp only at hSw); go_simp; try with_reducible rfl)
  simp only [Act.put, List.setIfInBounds_toArray, List.set_cons_zero, List.set_cons_succ]
  refine takeH (i := 6) (v := ?_) rfl (by kernel_rfl) (by kernel_rfl) (by kernel_rfl) (fun _ _ _ h => h) (Or.inl ⟨by rfl, ?_⟩) hH ?_
  rotate_left
  · (intro w hSw; (try dsimp only at hSw); go_simp; try with_reducible rfl)
  simp only [Act.put, List.setIfInBounds_toArray, List.set_cons_zero, List.set_cons_succ]
  refine takeH (i := 7) (v := ?_) rfl (by kernel_rfl) (by kernel_rfl) (by kernel_rfl) (fun _ _ _ h => h) (Or.inl ⟨by rfl, ?_⟩) hH ?_
  rotate_left
  · (intro w hSw; (try dsimp only at hSw); go_simp; try with_reducible rfl)
  simp only [Act.put, List.setIfInBounds_toArray, List.set_cons_zero, List.set_cons_succ]
  refine threeH (i := 8) (j := 16) (k := 17) rfl rfl rfl (by kernel_rfl) (fun K hK => ?_) (fun K hK => ?_) (fun K hK => ?_)
  · skip
    go_simp
    obtain ⟨v1, hv⟩ : ∃ W, W = v0.alloc (.cells #[.int .u8 ((hexN hi).toNat : Int), .int .u8 ((hexU lo).toNat : Int)] 5) := ⟨_, rfl⟩
    obtain ⟨gS, hg⟩ : ∃ g, g = v0.heap.size := ⟨_, rfl⟩
    rw [← hv, ← hg]
    have hRS : Row v1 gS 5 (byL [hexN hi, hexU lo]) := by rw [hv, hg]; exact Row.new v0 _ _
    have hb1 : Below v0.heap.size v0 v1 := by rw [hv]; exact (Below.refl _ _).alloc (Nat.le_refl _) _
    have hB := hB.trans (hb1.mono hB.size)
    clear hv hg hb1
    refine hK.out _ _ trivial (fun hH => ?_)
    clear hK K
    refine threeH (i := 9) (j := 16) (k := 17) rfl rfl rfl (by kernel_rfl) (fun K hK => ?_) (fun K hK => ?_) (fun K hK => ?_)
    · skip
      have hcv2 := RowY.str hRS 2 2 (Nat.le_refl _)
      rw [show [hexN hi, hexU lo].take 2 = [hexN hi, hexU lo] from rfl] at hcv2
      go_simp
      clear hcv2
      refine hK.out _ _ trivial (fun hH => ?_)
      clear hK K
      refine takeH (i := 10) (v := ?_) rfl (by kernel_rfl) (by kernel_rfl) (by kernel_rfl) (fun _ _ _ h => h) (Or.inl ⟨by rfl, ?_⟩) hH ?_
      rotate_left
      · (intro w hSw; (try dsimp only at hSw); go_simp; try with_reducible rfl)
      simp only [Act.put, List.setIfInBounds_toArray, List.set_cons_zero, List.set_cons_succ]
      refine takeH (i := 11) (v := ?_) rfl (by kernel_rfl) (by kernel_rfl) (by kernel_rfl) (fun _ _ _ h => h) (Or.inl ⟨by rfl, ?_⟩) hH ?_
      rotate_left
      · (intro w hSw; (try dsimp only at hSw); go_simp; try with_reducible rfl)
      simp only [Act.put, List.setIfInBounds_toArray, List.set_cons_zero, List.set_cons_succ]
      refine threeH (i := 12) (j := 16) (k := 17) rfl rfl rfl (by kernel_rfl) (fun K hK => ?_) (fun K hK => ?_) (fun K hK => ?_)
      · skip
        go_simp
        go_at_call 8
        refine (HP2.out v1).mono ?_; rintro e v2 ⟨bb, qq, bb', qq', rfl, hPP, hb2⟩
        have hB := hB.trans (hb2.mono hB.size)
        have hRS := hRS.below hb2
        obtain ⟨lp, hlp⟩ : ∃ l, l = v1.heap.size := ⟨_, rfl⟩
        rw [← hlp] at hPP
        obtain ⟨vp, hvp⟩ : ∃ W, W = v2 := ⟨_, rfl⟩
        rw [← hvp] at hPP
        have hKP : ∀ j, lp ≤ j → j < vp.heap.size → v2.heap[j]? = vp.heap[j]? := fun j _ _ => by rw [hvp]
        have hsp : vp.heap.size ≤ v2.heap.size := by rw [hvp]; exact Nat.le_refl _
        clear hb2 hlp hvp
        refine hK.out _ _ trivial (fun hH => ?_)
        clear hK K
        refine takeH (i := 13) (v := ?_) rfl (by kernel_rfl) (by kernel_rfl) (by kernel_rfl) (fun _ _ _ h => h) (Or.inl ⟨by rfl, ?_⟩) hH ?_
        rotate_left
        · (intro w hSw; (try dsimp only at hSw); go_simp; try with_reducible rfl)
        simp only [Act.put, List.setIfInBounds_toArray, List.set_cons_zero, List.set_cons_succ]
        refine takeH (i := 14) (v := ?_) rfl (by kernel_rfl) (by kernel_rfl) (by kernel_rfl) (fun _ _ _ h => h) (Or.inl ⟨by rfl, ?_⟩) hH ?_
        rotate_left
        · (intro w hSw; (try dsimp only at hSw); go_simp; try with_reducible rfl)
        simp only [Act.put, List.setIfInBounds_toArray, List.set_cons_zero, List.set_cons_succ]
        refine takeH (i := 15) (v := ?_) rfl (by kernel_rfl) (by kernel_rfl) (by kernel_rfl) (fun _ _ _ h => h) (Or.inl ⟨by rfl, ?_⟩) hH ?_
        rotate_left
        · (intro w hSw; (try dsimp only at hSw); go_simp; try with_reducible rfl)
        simp only [Act.put, List.setIfInBounds_toArray, List.set_cons_zero, List.set_cons_succ]
        refine twoH (i := 16) (j := 17) rfl rfl (by kernel_rfl) (fun K hK => ?_) (fun K hK => ?_)
        · skip
          go_simp
          obtain ⟨v3, hv⟩ : ∃ W, W = v2.alloc (.cells #[.int .i64 0, .int .i64 0, .string ⟨#[]⟩, .slice none 0 0, .slice none 0 0] 27) := ⟨_, rfl⟩
          obtain ⟨gA, hg⟩ : ∃ g, g = v2.heap.size := ⟨_, rfl⟩
          rw [← hv, ← hg]
          have hRA : Row v3 gA 27 [.int .i64 0, .int .i64 0, .string ⟨#[]⟩, .slice none 0 0, .slice none 0 0] := by rw [hv, hg]; exact Row.new v2 _ _
          have hb3 : Below v2.heap.size v2 v3 := by rw [hv]; exact (Below.refl _ _).alloc (Nat.le_refl _) _
          have hLA : w3.heap.size ≤ gA := by rw [hg]; exact hB.size
          have hAP : gA < lp ∨ vp.heap.size ≤ gA := .inr (by rw [hg]; exact hsp)
          have hB := hB.trans (hb3.mono hB.size)
          have hRS := hRS.below hb3
          have hKP := fun j (j1 : lp ≤ j) (j2 : j < vp.heap.size) => (hb3.block j (Nat.lt_of_lt_of_le j2 hsp)).trans (hKP j j1 j2)
          have hsp := Nat.le_trans hsp hb3.size
          clear hv hg hb3
          refine hK.out _ _ trivial (fun hH => ?_)
          clear hK K
          refine oneH (i := 17) rfl (by kernel_rfl) (fun K hK => ?_)
          go_simp
          obtain ⟨v4, hv⟩ : ∃ W, W = v3.alloc (.cells #[.int .i64 0, .int .i64 0] 30) := ⟨_, rfl⟩
          obtain ⟨gB, hg⟩ : ∃ g, g = v3.heap.size := ⟨_, rfl⟩
          rw [← hv, ← hg]
          have hRB : Row v4 gB 30 [.int .i64 0, .int .i64 0] := by rw [hv, hg]; exact Row.new v3 _ _
          have hb4 : Below v3.heap.size v3 v4 := by rw [hv]; exact (Below.refl _ _).alloc (Nat.le_refl _) _
          have hLB : w3.heap.size ≤ gB := by rw [hg]; exact hB.size
          have hBP : gB < lp ∨ vp.heap.size ≤ gB := .inr (by rw [hg]; exact hsp)
          have hB := hB.trans (hb4.mono hB.size)
          have hRA := hRA.below hb4
          have hRS := hRS.below hb4
          have hKP := fun j (j1 : lp ≤ j) (j2 : j < vp.heap.size) => (hb4.block j (Nat.lt_of_lt_of_le j2 hsp)).trans (hKP j j1 j2)
          have hsp := Nat.le_trans hsp hb4.size
          clear hv hg hb4
          refine hK.out _ _ trivial (fun hH => ?_)
          clear hK K
          refine oneH (i := 18) rfl (by kernel_rfl) (fun K hK => ?_)
          obtain ⟨v5, hv⟩ : ∃ W, W = set5 v4 gA (.int .i64 (kD r2)) (.int .i64 (nD r2)) (.string (sD r2)) (.slice bb (iD r2).length qq) (.slice bb' (mD r2).length qq') := ⟨_, rfl⟩
          obtain ⟨t0, t1, t2, t3, t4⟩ := row5 hRA
          have q0 := hRA.frozen 0
          have q1 := hRA.frozen 1
          have q2 := hRA.frozen 2
          have q3 := hRA.frozen 3
          have q4 := hRA.frozen 4
          have hRA2 : Row v5 gA 27 [.int .i64 (kD r2), .int .i64 (nD r2), .string (sD r2), .slice bb (iD r2).length qq, .slice bb' (mD r2).length qq'] := by rw [hv]; exact row_set5 hRA _ _ _ _ _
          have hRB : Row v5 gB 30 [.int .i64 0, .int .i64 0] := by rw [hv]; exact row_far5 hRB (Ne.symm (Row.ne_ hRA hRB (by decide))) _ _ _ _ _
          have hB : Below w3.heap.size w3 v5 := by rw [hv]; exact below_set5 hB hLA _ _ _ _ _
          have hKP : ∀ j, lp ≤ j → j < vp.heap.size → v5.heap[j]? = vp.heap[j]? := fun j j1 j2 => by rw [hv, set5_heap _ _ _ _ _ _ _ (by omega)]; exact hKP j j1 j2
          have hsp : vp.heap.size ≤ v5.heap.size := by rw [hv, set5_size]; exact hsp
          unfold set5 at hv
          go_simp
          rw [← hv]
          clear hv t0 t1 t2 t3 t4 q0 q1 q2 q3 q4 hRA hRS
          have hRA := hRA2
          clear hRA2
          refine hK.out _ _ trivial (fun hH => ?_)
          clear hK K
          have hne : gA ≠ gB := Row.ne_ hRA hRB (by decide)
          obtain ⟨wf, hwf⟩ : ∃ W, W = (v5.setCell ⟨gB, 0, none⟩ (.int .i64 0)).setCell ⟨gB, 1, none⟩ (.int .i64 0) := ⟨_, rfl⟩
          obtain ⟨k0, k1, k2, k3⟩ := strings_fin hRA hRB hne hB hLB hPP hKP hBP hsp hwf
          have t0 : v5.cell? ⟨gB, 0, none⟩ = some (.int .i64 0) := hRB.cell 0
          have t1 : v5.cell? ⟨gB, 1, none⟩ = some (.int .i64 0) := hRB.cell 1
          have q0 := hRB.frozen 0
          have q1 := hRB.frozen 1
          clear hRA hRB hB hPP hKP hAP hBP hsp
          refine oneH (i := 19) rfl (by kernel_rfl) (fun K hK => ?_)
          go_simp
          rw [← hwf]
          refine hK.out _ _ trivial (fun hH => ?_)
          clear hK K hwf t0 t1 q0 q1
          refine wpAnyH_done (by kernel_rfl) ?_ _
          have HK0 := hide k0; have HK1 := hide k1; have HK2 := hide k2; have HK3 := hide k3
          clear k0 k1 k2 k3 hH hs1 hs2 e1 e2 e4 l1 l2 hSS s1 s2 HU hp1 hne hLA hLB
          have hcvf := hcv wf
          go_upto_region 6 with fail
          obtain ⟨wg, hwg⟩ : ∃ W, W = wf.alloc (.cells #[.int .u8 (c.toNat : Int)] 5) := ⟨_, rfl⟩
          have hBg : Below wf.heap.size wf wg := by rw [hwg]; exact (Below.refl _ _).alloc (Nat.le_refl _) _
          have hsg : wf.heap.size + 1 = wg.heap.size := by rw [hwg]; simp
          rw [← hwg, hsg]
          obtain ⟨w7, g7, e1, e2, hB7, z0, z1, z2, z3, z4, hR7⟩ := boxD wg 4 0 T (.slice none 0 0) (.slice none 0 0)
          rw [e1, e2]
          have hBB := hBg.trans (hB7.mono hBg.size)
          have HB7 := hide (HB3.out.trans ((HK2.out.trans (hBB.mono HK2.out.size)).mono HB3.out.size))
          have hRA7 := HK0.out.below hBB
          have hRB7 := HK1.out.below hBB
          have hP7 := HK3.out.turn (Same.of_below hBB) hBB.size
          have hr3 := (HR3.out.1.below HK2.out).below hBB
          have hf3 := (HR3.out.2.below HK2.out).below hBB
          have hP3 := HP3.out.turn (Same.of_below (HK2.out.trans (hBB.mono HK2.out.size))) (HK2.out.trans (hBB.mono HK2.out.size)).size
          have HSR := hide fun W (h : Below w7.heap.size w7 W) => And.intro (row5 (hRA7.below h)) (row5 (hR7.below h))
          have HSA := hide fun W (h : Below w7.heap.size w7 W) => (strings_same HTT.out (hP3.turn (Same.of_below h) h.size) HM1.out s1b : Calls Tryd.prog 9 #[.agg #[.int .i64 (kD r1), .int .i64 (nD r1), .string (sD r1), .slice b2 (iD r1).length q2, .slice b2' (mD r1).length q2'], .agg #[.int .i64 4, .int .i64 0, .string T, .slice none 0 0, .slice none 0 0]] W fun e w' => e = .returned (.bool true) ∧ Below W.heap.size W w')
          have HSB := hide fun W (h : Below w7.heap.size w7 W) => (strings_same HTT.out (hP7.turn (Same.of_below h) h.size) HM2.out s2b : Calls Tryd.prog 9 #[.agg #[.int .i64 (kD r2), .int .i64 (nD r2), .string (sD r2), .slice bb (iD r2).length qq, .slice bb' (mD r2).length qq'], .agg #[.int .i64 4, .int .i64 0, .string T, .slice none 0 0, .slice none 0 0]] W fun e w' => e = .returned (.bool true) ∧ Below W.heap.size W w')
          have y0 : w7.cell? ⟨gB, 0, none⟩ = some (.int .i64 0) := hRB7.cell 0
          have y1 : w7.cell? ⟨gB, 1, none⟩ = some (.int .i64 0) := hRB7.cell 1
          have x0 : w7.cell? ⟨f3, 0, none⟩ = some (.int .i64 0) := hf3.cell 0
          have x1 : w7.cell? ⟨f3, 1, none⟩ = some (.int .i64 0) := hf3.cell 1
          obtain ⟨u0, u1, u2, u3, u4⟩ := row5 hr3
          clear hwg hBg hsg e1 e2 hBB hB7 hR7 hRA7 hRB7 hP7 hr3 hf3 hP3 HK0 HK1 HK2 HK3 HR3 HP3 hcvf hcv
          go_wp2_with fail
          refine (HSA.out _ (Below.refl _ _)).mono ?_; rintro e w8 ⟨rfl, hB8⟩
          obtain ⟨⟨u0', u1', u2', u3', u4'⟩, ⟨z0', z1', z2', z3', z4'⟩⟩ := HSR.out _ hB8
          have HX := hide (HSB.out _ hB8)
          have HB8 := hide (HB7.out.trans (hB8.mono HB7.out.size))
          clear u0 u1 u2 u3 u4 z0 z1 z2 z3 z4 y0 y1 x0 x1 hB8 HSA HSB HSR HB7
          go_wp2_with fail
          refine HX.out.mono ?_; rintro e w9 ⟨rfl, hB9⟩
          have HB9 := hide (HB8.out.trans (hB9.mono HB8.out.size))
          have HY := hide (HE.out _ HB9.out)
          clear hB9 HX HB8 u0' u1' u2' u3' u4' z0' z1' z2' z3' z4'
          go_wp2_with fail
          refine HY.out.mono ?_; rintro e w10 ⟨rfl, hB10⟩
          have HB10 := hide (HB9.out.trans (hB10.mono HB9.out.size))
          go_wp2_with fail
          go_ret
          exact ⟨rfl, HB10.out⟩
        · skip
          go_simp
          obtain ⟨v3, hv⟩ : ∃ W, W = v2.alloc (.cells #[.int .i64 0, .int .i64 0] 30) := ⟨_, rfl⟩
          obtain ⟨gB, hg⟩ : ∃ g, g = v2.heap.size := ⟨_, rfl⟩
          rw [← hv, ← hg]
          have hRB : Row v3 gB 30 [.int .i64 0, .int .i64 0] := by rw [hv, hg]; exact Row.new v2 _ _
          have hb3 : Below v2.heap.size v2 v3 := by rw [hv]; exact (Below.refl _ _).alloc (Nat.le_refl _) _
          have hLB : w3.heap.size ≤ gB := by rw [hg]; exact hB.size
          have hBP : gB < lp ∨ vp.heap.size ≤ gB := .inr (by rw [hg]; exact hsp)
          have hB := hB.trans (hb3.mono hB.size)
          have hRS := hRS.below hb3
          have hKP := fun j (j1 : lp ≤ j) (j2 : j < vp.heap.size) => (hb3.block j (Nat.lt_of_lt_of_le j2 hsp)).trans (hKP j j1 j2)
          have hsp := Nat.le_trans hsp hb3.size
          clear hv hg hb3
          refine hK.out _ _ trivial (fun hH => ?_)
          clear hK K
          refine oneH (i := 16) rfl (by kernel_rfl) (fun K hK => ?_)
          go_simp
          obtain ⟨v4, hv⟩ : ∃ W, W = v3.alloc (.cells #[.int .i64 0, .int .i64 0, .string ⟨#[]⟩, .slice none 0 0, .slice none 0 0] 27) := ⟨_, rfl⟩
          obtain ⟨gA, hg⟩ : ∃ g, g = v3.heap.size := ⟨_, rfl⟩
          rw [← hv, ← hg]
          have hRA : Row v4 gA 27 [.int .i64 0, .int .i64 0, .string ⟨#[]⟩, .slice none 0 0, .slice none 0 0] := by rw [hv, hg]; exact Row.new v3 _ _
          have hb4 : Below v3.heap.size v3 v4 := by rw [hv]; exact (Below.refl _ _).alloc (Nat.le_refl _) _
          have hLA : w3.heap.size ≤ gA := by rw [hg]; exact hB.size
          have hAP : gA < lp ∨ vp.heap.size ≤ gA := .inr (by rw [hg]; exact hsp)
          have hB := hB.trans (hb4.mono hB.size)
          have hRB := hRB.below hb4
          have hRS := hRS.below hb4
          have hKP := fun j (j1 : lp ≤ j) (j2 : j < vp.heap.size) => (hb4.block j (Nat.lt_of_lt_of_le j2 hsp)).trans (hKP j j1 j2)
          have hsp := Nat.le_trans hsp hb4.size
          clear hv hg hb4
          refine hK.out _ _ trivial (fun hH => ?_)
          clear hK K
          refine oneH (i := 18) rfl (by kernel_rfl) (fun K hK => ?_)
          obtain ⟨v5, hv⟩ : ∃ W, W = set5 v4 gA (.int .i64 (kD r2)) (.int .i64 (nD r2)) (.string (sD r2)) (.slice bb (iD r2).length qq) (.slice bb' (mD r2).length qq') := ⟨_, rfl⟩
          obtain ⟨t0, t1, t2, t3, t4⟩ := row5 hRA
          have q0 := hRA.frozen 0
          have q1 := hRA.frozen 1
          have q2 := hRA.frozen 2
          have q3 := hRA.frozen 3
          have q4 := hRA.frozen 4
          have hRA2 : Row v5 gA 27 [.int .i64 (kD r2), .int .i64 (nD r2), .string (sD r2), .slice bb (iD r2).length qq, .slice bb' (mD r2).length qq'] := by rw [hv]; exact row_set5 hRA _ _ _ _ _
          have hRB : Row v5 gB 30 [.int .i64 0, .int .i64 0] := by rw [hv]; exact row_far5 hRB (Ne.symm (Row.ne_ hRA hRB (by decide))) _ _ _ _ _
          have hB : Below w3.heap.size w3 v5 := by rw [hv]; exact below_set5 hB hLA _ _ _ _ _
          have hKP : ∀ j, lp ≤ j → j < vp.heap.size → v5.heap[j]? = vp.heap[j]? := fun j j1 j2 => by rw [hv, set5_heap _ _ _ _ _ _ _ (by omega)]; exact hKP j j1 j2
          have hsp : vp.heap.size ≤ v5.heap.size := by rw [hv, set5_size]; exact hsp
          unfold set5 at hv
          go_simp
          rw [← hv]
          clear hv t0 t1 t2 t3 t4 q0 q1 q2 q3 q4 hRA hRS
          have hRA := hRA2
          clear hRA2
          refine hK.out _ _ trivial (fun hH => ?_)
          clear hK K
          have hne : gA ≠ gB := Row.ne_ hRA hRB (by decide)
          obtain ⟨wf, hwf⟩ : ∃ W, W = (v5.setCell ⟨gB, 0, none⟩ (.int .i64 0)).setCell ⟨gB, 1, none⟩ (.int .i64 0) := ⟨_, rfl⟩
          obtain ⟨k0, k1, k2, k3⟩ := strings_fin hRA hRB hne hB hLB hPP hKP hBP hsp hwf
          have t0 : v5.cell? ⟨gB, 0, none⟩ = some (.int .i64 0) := hRB.cell 0
          have t1 : v5.cell? ⟨gB, 1, none⟩ = some (.int .i64 0) := hRB.cell 1
          have q0 := hRB.frozen 0
          have q1 := hRB.frozen 1
          clear hRA hRB hB hPP hKP hAP hBP hsp
          refine oneH (i := 19) rfl (by kernel_rfl) (fun K hK => ?_)
          go_simp
          rw [← hwf]
          refine hK.out _ _ trivial (fun hH => ?_)
          clear hK K hwf t0 t1 q0 q1
          refine wpAnyH_done (by kernel_rfl) ?_ _
          have HK0 := hide k0; have HK1 := hide k1; have HK2 := hide k2; have HK3 := hide k3
          clear k0 k1 k2 k3 hH hs1 hs2 e1 e2 e4 l1 l2 hSS s1 s2 HU hp1 hne hLA hLB
          have hcvf := hcv wf
          go_upto_region 6 with fail
          obtain ⟨wg, hwg⟩ : ∃ W, W = wf.alloc (.cells #[.int .u8 (c.toNat : Int)] 5) := ⟨_, rfl⟩
          have hBg : Below wf.heap.size wf wg := by rw [hwg]; exact (Below.refl _ _).alloc (Nat.le_refl _) _
          have hsg : wf.heap.size + 1 = wg.heap.size := by rw [hwg]; simp
          rw [← hwg, hsg]
          obtain ⟨w7, g7, e1, e2, hB7, z0, z1, z2, z3, z4, hR7⟩ := boxD wg 4 0 T (.slice none 0 0) (.slice none 0 0)
          rw [e1, e2]
          have hBB := hBg.trans (hB7.mono hBg.size)
          have HB7 := hide (HB3.out.trans ((HK2.out.trans (hBB.mono HK2.out.size)).mono HB3.out.size))
          have hRA7 := HK0.out.below hBB
          have hRB7 := HK1.out.below hBB
          have hP7 := HK3.out.turn (Same.of_below hBB) hBB.size
          have hr3 := (HR3.out.1.below HK2.out).below hBB
          have hf3 := (HR3.out.2.below HK2.out).below hBB
          have hP3 := HP3.out.turn (Same.of_below (HK2.out.trans (hBB.mono HK2.out.size))) (HK2.out.trans (hBB.mono HK2.out.size)).size
          have HSR := hide fun W (h : Below w7.heap.size w7 W) => And.intro (row5 (hRA7.below h)) (row5 (hR7.below h))
          have HSA := hide fun W (h : Below w7.heap.size w7 W) => (strings_same HTT.out (hP3.turn (Same.of_below h) h.size) HM1.out s1b : Calls Tryd.prog 9 #[.agg #[.int .i64 (kD r1), .int .i64 (nD r1), .string (sD r1), .slice b2 (iD r1).length q2, .slice b2' (mD r1).length q2'], .agg #[.int .i64 4, .int .i64 0, .string T, .slice none 0 0, .slice none 0 0]] W fun e w' => e = .returned (.bool true) ∧ Below W.heap.size W w')
          have HSB := hide fun W (h : Below w7.heap.size w7 W) => (strings_same HTT.out (hP7.turn (Same.of_below h) h.size) HM2.out s2b : Calls Tryd.prog 9 #[.agg #[.int .i64 (kD r2), .int .i64 (nD r2), .string (sD r2), .slice bb (iD r2).length qq, .slice bb' (mD r2).length qq'], .agg #[.int .i64 4, .int .i64 0, .string T, .slice none 0 0, .slice none 0 0]] W fun e w' => e = .returned (.bool true) ∧ Below W.heap.size W w')
          have y0 : w7.cell? ⟨gB, 0, none⟩ = some (.int .i64 0) := hRB7.cell 0
          have y1 : w7.cell? ⟨gB, 1, none⟩ = some (.int .i64 0) := hRB7.cell 1
          have x0 : w7.cell? ⟨f3, 0, none⟩ = some (.int .i64 0) := hf3.cell 0
          have x1 : w7.cell? ⟨f3, 1, none⟩ = some (.int .i64 0) := hf3.cell 1
          obtain ⟨u0, u1, u2, u3, u4⟩ := row5 hr3
          clear hwg hBg hsg e1 e2 hBB hB7 hR7 hRA7 hRB7 hP7 hr3 hf3 hP3 HK0 HK1 HK2 HK3 HR3 HP3 hcvf hcv
          go_wp2_with fail
          refine (HSA.out _ (Below.refl _ _)).mono ?_; rintro e w8 ⟨rfl, hB8⟩
          obtain ⟨⟨u0', u1', u2', u3', u4'⟩, ⟨z0', z1', z2', z3', z4'⟩⟩ := HSR.out _ hB8
          have HX := hide (HSB.out _ hB8)
          have HB8 := hide (HB7.out.trans (hB8.mono HB7.out.size))
          clear u0 u1 u2 u3 u4 z0 z1 z2 z3 z4 y0 y1 x0 x1 hB8 HSA HSB HSR HB7
          go_wp2_with fail
          refine HX.out.mono ?_; rintro e w9 ⟨rfl, hB9⟩
          have HB9 := hide (HB8.out.trans (hB9.mono HB8.out.size))
          have HY := hide (HE.out _ HB9.out)
          clear hB9 HX HB8 u0' u1' u2' u3' u4' z0' z1' z2' z3' z4'
          go_wp2_with fail
          refine HY.out.mono ?_; rintro e w10 ⟨rfl, hB10⟩
          have HB10 := hide (HB9.out.trans (hB10.mono HB9.out.size))
          go_wp2_with fail
          go_ret
          exact ⟨rfl, HB10.out⟩
      · skip
        go_simp
        obtain ⟨v2, hv⟩ : ∃ W, W = v1.alloc (.cells #[.int .i64 0, .int .i64 0, .string ⟨#[]⟩, .slice none 0 0, .slice none 0 0] 27) := ⟨_, rfl⟩
        obtain ⟨gA, hg⟩ : ∃ g, g = v1.heap.size := ⟨_, rfl⟩
        rw [← hv, ← hg]
        have hRA : Row v2 gA 27 [.int .i64 0, .int .i64 0, .string ⟨#[]⟩, .slice none 0 0, .slice none 0 0] := by rw [hv, hg]; exact Row.new v1 _ _
        have hb2 : Below v1.heap.size v1 v2 := by rw [hv]; exact (Below.refl _ _).alloc (Nat.le_refl _) _
        have hLA : w3.heap.size ≤ gA := by rw [hg]; exact hB.size
        have hB := hB.trans (hb2.mono hB.size)
        have hRS := hRS.below hb2
        clear hv hg hb2
        refine hK.out _ _ trivial (fun hH => ?_)
        clear hK K
        refine twoH (i := 12) (j := 17) rfl rfl (by kernel_rfl) (fun K hK => ?_) (fun K hK => ?_)
        · skip
          have hqA := hRA.lt
          go_simp
          go_at_call 8
          refine (HP2.out v2).mono ?_; rintro e v3 ⟨bb, qq, bb', qq', rfl, hPP, hb3⟩
          have hB := hB.trans (hb3.mono hB.size)
          have hRA := hRA.below hb3
          have hRS := hRS.below hb3
          obtain ⟨lp, hlp⟩ : ∃ l, l = v2.heap.size := ⟨_, rfl⟩
          rw [← hlp] at hPP
          obtain ⟨vp, hvp⟩ : ∃ W, W = v3 := ⟨_, rfl⟩
          rw [← hvp] at hPP
          have hKP : ∀ j, lp ≤ j → j < vp.heap.size → v3.heap[j]? = vp.heap[j]? := fun j _ _ => by rw [hvp]
          have hsp : vp.heap.size ≤ v3.heap.size := by rw [hvp]; exact Nat.le_refl _
          have hAP : gA < lp ∨ vp.heap.size ≤ gA := .inl (by rw [hlp]; exact hqA)
          clear hb3 hlp hvp hqA
          refine hK.out _ _ trivial (fun hH => ?_)
          clear hK K
          refine takeH (i := 13) (v := ?_) rfl (by kernel_rfl) (by kernel_rfl) (by kernel_rfl) (fun _ _ _ h => h) (Or.inl ⟨by rfl, ?_⟩) hH ?_
          rotate_left
          · (intro w hSw; (try dsimp only at hSw); go_simp; try with_reducible rfl)
          simp only [Act.put, List.setIfInBounds_toArray, List.set_cons_zero, List.set_cons_succ]
          refine takeH (i := 14) (v := ?_) rfl (by kernel_rfl) (by kernel_rfl) (by kernel_rfl) (fun _ _ _ h => h) (Or.inl ⟨by rfl, ?_⟩) hH ?_
          rotate_left
          · (intro w hSw; (try dsimp only at hSw); go_simp; try with_reducible rfl)
          simp only [Act.put, List.setIfInBounds_toArray, List.set_cons_zero, List.set_cons_succ]
          refine takeH (i := 15) (v := ?_) rfl (by kernel_rfl) (by kernel_rfl) (by kernel_rfl) (fun _ _ _ h => h) (Or.inl ⟨by rfl, ?_⟩) hH ?_
          rotate_left
          · (intro w hSw; (try dsimp only at hSw); go_simp; try with_reducible rfl)
          simp only [Act.put, List.setIfInBounds_toArray, List.set_cons_zero, List.set_cons_succ]
          refine oneH (i := 17) rfl (by kernel_rfl) (fun K hK => ?_)
          go_simp
          obtain ⟨v4, hv⟩ : ∃ W, W = v3.alloc (.cells #[.int .i64 0, .int .i64 0] 30) := ⟨_, rfl⟩
          obtain ⟨gB, hg⟩ : ∃ g, g = v3.heap.size := ⟨_, rfl⟩
          rw [← hv, ← hg]
          have hRB : Row v4 gB 30 [.int .i64 0, .int .i64 0] := by rw [hv, hg]; exact Row.new v3 _ _
          have hb4 : Below v3.heap.size v3 v4 := by rw [hv]; exact (Below.refl _ _).alloc (Nat.le_refl _) _
          have hLB : w3.heap.size ≤ gB := by rw [hg]; exact hB.size
          have hBP : gB < lp ∨ vp.heap.size ≤ gB := .inr (by rw [hg]; exact hsp)
          have hB := hB.trans (hb4.mono hB.size)
          have hRA := hRA.below hb4
          have hRS := hRS.below hb4
          have hKP := fun j (j1 : lp ≤ j) (j2 : j < vp.heap.size) => (hb4.block j (Nat.lt_of_lt_of_le j2 hsp)).trans (hKP j j1 j2)
          have hsp := Nat.le_trans hsp hb4.size
          clear hv hg hb4
          refine hK.out _ _ trivial (fun hH => ?_)
          clear hK K
          refine oneH (i := 18) rfl (by kernel_rfl) (fun K hK => ?_)
          obtain ⟨v5, hv⟩ : ∃ W, W = set5 v4 gA (.int .i64 (kD r2)) (.int .i64 (nD r2)) (.string (sD r2)) (.slice bb (iD r2).length qq) (.slice bb' (mD r2).length qq') := ⟨_, rfl⟩
          obtain ⟨t0, t1, t2, t3, t4⟩ := row5 hRA
          have q0 := hRA.frozen 0
          have q1 := hRA.frozen 1
          have q2 := hRA.frozen 2
          have q3 := hRA.frozen 3
          have q4 := hRA.frozen 4
          have hRA2 : Row v5 gA 27 [.int .i64 (kD r2), .int .i64 (nD r2), .string (sD r2), .slice bb (iD r2).length qq, .slice bb' (mD r2).length qq'] := by rw [hv]; exact row_set5 hRA _ _ _ _ _
          have hRB : Row v5 gB 30 [.int .i64 0, .int .i64 0] := by rw [hv]; exact row_far5 hRB (Ne.symm (Row.ne_ hRA hRB (by decide))) _ _ _ _ _
          have hB : Below w3.heap.size w3 v5 := by rw [hv]; exact below_set5 hB hLA _ _ _ _ _
          have hKP : ∀ j, lp ≤ j → j < vp.heap.size → v5.heap[j]? = vp.heap[j]? := fun j j1 j2 => by rw [hv, set5_heap _ _ _ _ _ _ _ (by omega)]; exact hKP j j1 j2
          have hsp : vp.heap.size ≤ v5.heap.size := by rw [hv, set5_size]; exact hsp
          unfold set5 at hv
          go_simp
          rw [← hv]
          clear hv t0 t1 t2 t3 t4 q0 q1 q2 q3 q4 hRA hRS
          have hRA := hRA2
          clear hRA2
          refine hK.out _ _ trivial (fun hH => ?_)
          clear hK K
          have hne : gA ≠ gB := Row.ne_ hRA hRB (by decide)
          obtain ⟨wf, hwf⟩ : ∃ W, W = (v5.setCell ⟨gB, 0, none⟩ (.int .i64 0)).setCell ⟨gB, 1, none⟩ (.int .i64 0) := ⟨_, rfl⟩
          obtain ⟨k0, k1, k2, k3⟩ := strings_fin hRA hRB hne hB hLB hPP hKP hBP hsp hwf
          have t0 : v5.cell? ⟨gB, 0, none⟩ = some (.int .i64 0) := hRB.cell 0
          have t1 : v5.cell? ⟨gB, 1, none⟩ = some (.int .i64 0) := hRB.cell 1
          have q0 := hRB.frozen 0
          have q1 := hRB.frozen 1
          clear hRA hRB hB hPP hKP hAP hBP hsp
          refine oneH (i := 19) rfl (by kernel_rfl) (fun K hK => ?_)
          go_simp
          rw [← hwf]
          refine hK.out _ _ trivial (fun hH => ?_)
          clear hK K hwf t0 t1 q0 q1
          refine wpAnyH_done (by kernel_rfl) ?_ _
          have HK0 := hide k0; have HK1 := hide k1; have HK2 := hide k2; have HK3 := hide k3
          clear k0 k1 k2 k3 hH hs1 hs2 e1 e2 e4 l1 l2 hSS s1 s2 HU hp1 hne hLA hLB
          have hcvf := hcv wf
          go_upto_region 6 with fail
          obtain ⟨wg, hwg⟩ : ∃ W, W = wf.alloc (.cells #[.int .u8 (c.toNat : Int)] 5) := ⟨_, rfl⟩
          have hBg : Below wf.heap.size wf wg := by rw [hwg]; exact (Below.refl _ _).alloc (Nat.le_refl _) _
          have hsg : wf.heap.size + 1 = wg.heap.size := by rw [hwg]; simp
          rw [← hwg, hsg]
          obtain ⟨w7, g7, e1, e2, hB7, z0, z1, z2, z3, z4, hR7⟩ := boxD wg 4 0 T (.slice none 0 0) (.slice none 0 0)
          rw [e1, e2]
          have hBB := hBg.trans (hB7.mono hBg.size)
          have HB7 := hide (HB3.out.trans ((HK2.out.trans (hBB.mono HK2.out.size)).mono HB3.out.size))
          have hRA7 := HK0.out.below hBB
          have hRB7 := HK1.out.below hBB
          have hP7 := HK3.out.turn (Same.of_below hBB) hBB.size
          have hr3 := (HR3.out.1.below HK2.out).below hBB
          have hf3 := (HR3.out.2.below HK2.out).below hBB
          have hP3 := HP3.out.turn (Same.of_below (HK2.out.trans (hBB.mono HK2.out.size))) (HK2.out.trans (hBB.mono HK2.out.size)).size
          have HSR := hide fun W (h : Below w7.heap.size w7 W) => And.intro (row5 (hRA7.below h)) (row5 (hR7.below h))
          have HSA := hide fun W (h : Below w7.heap.size w7 W) => (strings_same HTT.out (hP3.turn (Same.of_below h) h.size) HM1.out s1b : Calls Tryd.prog 9 #[.agg #[.int .i64 (kD r1), .int .i64 (nD r1), .string (sD r1), .slice b2 (iD r1).length q2, .slice b2' (mD r1).length q2'], .agg #[.int .i64 4, .int .i64 0, .string T, .slice none 0 0, .slice none 0 0]] W fun e w' => e = .returned (.bool true) ∧ Below W.heap.size W w')
          have HSB := hide fun W (h : Below w7.heap.size w7 W) => (strings_same HTT.out (hP7.turn (Same.of_below h) h.size) HM2.out s2b : Calls Tryd.prog 9 #[.agg #[.int .i64 (kD r2), .int .i64 (nD r2), .string (sD r2), .slice bb (iD r2).length qq, .slice bb' (mD r2).length qq'], .agg #[.int .i64 4, .int .i64 0, .string T, .slice none 0 0, .slice none 0 0]] W fun e w' => e = .returned (.bool true) ∧ Below W.heap.size W w')
          have y0 : w7.cell? ⟨gB, 0, none⟩ = some (.int .i64 0) := hRB7.cell 0
          have y1 : w7.cell? ⟨gB, 1, none⟩ = some (.int .i64 0) := hRB7.cell 1
          have x0 : w7.cell? ⟨f3, 0, none⟩ = some (.int .i64 0) := hf3.cell 0
          have x1 : w7.cell? ⟨f3, 1, none⟩ = some (.int .i64 0) := hf3.cell 1
          obtain ⟨u0, u1, u2, u3, u4⟩ := row5 hr3
          clear hwg hBg hsg e1 e2 hBB hB7 hR7 hRA7 hRB7 hP7 hr3 hf3 hP3 HK0 HK1 HK2 HK3 HR3 HP3 hcvf hcv
          go_wp2_with fail
          refine (HSA.out _ (Below.refl _ _)).mono ?_; rintro e w8 ⟨rfl, hB8⟩
          obtain ⟨⟨u0', u1', u2', u3', u4'⟩, ⟨z0', z1', z2', z3', z4'⟩⟩ := HSR.out _ hB8
          have HX := hide (HSB.out _ hB8)
          have HB8 := hide (HB7.out.trans (hB8.mono HB7.out.size))
          clear u0 u1 u2 u3 u4 z0 z1 z2 z3 z4 y0 y1 x0 x1 hB8 HSA HSB HSR HB7
          go_wp2_with fail
          refine HX.out.mono ?_; rintro e w9 ⟨rfl, hB9⟩
          have HB9 := hide (HB8.out.trans (hB9.mono HB8.out.size))
          have HY := hide (HE.out _ HB9.out)
          clear hB9 HX HB8 u0' u1' u2' u3' u4' z0' z1' z2' z3' z4'
          go_wp2_with fail
          refine HY.out.mono ?_; rintro e w10 ⟨rfl, hB10⟩
          have HB10 := hide (HB9.out.trans (hB10.mono HB9.out.size))
          go_wp2_with fail
          go_ret
          exact ⟨rfl, HB10.out⟩
        · skip
          go_simp
          obtain ⟨v3, hv⟩ : ∃ W, W = v2.alloc (.cells #[.int .i64 0, .int .i64 0] 30) := ⟨_, rfl⟩
          obtain ⟨gB, hg⟩ : ∃ g, g = v2.heap.size := ⟨_, rfl⟩
          rw [← hv, ← hg]
          have hRB : Row v3 gB 30 [.int .i64 0, .int .i64 0] := by rw [hv, hg]; exact Row.new v2 _ _
          have hb3 : Below v2.heap.size v2 v3 := by rw [hv]; exact (Below.refl _ _).alloc (Nat.le_refl _) _
          have hLB : w3.heap.size ≤ gB := by rw [hg]; exact hB.size
          have hB := hB.trans (hb3.mono hB.size)
          have hRA := hRA.below hb3
          have hRS := hRS.below hb3
          clear hv hg hb3
          refine hK.out _ _ trivial (fun hH => ?_)
          clear hK K
          refine oneH (i := 12) rfl (by kernel_rfl) (fun K hK => ?_)
          have hqA := hRA.lt
          have hqB := hRB.lt
          go_simp
          go_at_call 8
          refine (HP2.out v3).mono ?_; rintro e v4 ⟨bb, qq, bb', qq', rfl, hPP, hb4⟩
          have hB := hB.trans (hb4.mono hB.size)
          have hRA := hRA.below hb4
          have hRB := hRB.below hb4
          have hRS := hRS.below hb4
          obtain ⟨lp, hlp⟩ : ∃ l, l = v3.heap.size := ⟨_, rfl⟩
          rw [← hlp] at hPP
          obtain ⟨vp, hvp⟩ : ∃ W, W = v4 := ⟨_, rfl⟩
          rw [← hvp] at hPP
          have hKP : ∀ j, lp ≤ j → j < vp.heap.size → v4.heap[j]? = vp.heap[j]? := fun j _ _ => by rw [hvp]
          have hsp : vp.heap.size ≤ v4.heap.size := by rw [hvp]; exact Nat.le_refl _
          have hAP : gA < lp ∨ vp.heap.size ≤ gA := .inl (by rw [hlp]; exact hqA)
          have hBP : gB < lp ∨ vp.heap.size ≤ gB := .inl (by rw [hlp]; exact hqB)
          clear hb4 hlp hvp hqA hqB
          refine hK.out _ _ trivial (fun hH => ?_)
          clear hK K
          refine takeH (i := 13) (v := ?_) rfl (by kernel_rfl) (by kernel_rfl) (by kernel_rfl) (fun _ _ _ h => h) (Or.inl ⟨by rfl, ?_⟩) hH ?_
          rotate_left
          · (intro w hSw; (try dsimp only at hSw); go_simp; try with_reducible rfl)
          simp only [Act.put, List.setIfInBounds_toArray, List.set_cons_zero, List.set_cons_succ]
          refine takeH (i := 14) (v := ?_) rfl (by kernel_rfl) (by kernel_rfl) (by kernel_rfl) (fun _ _ _ h => h) (Or.inl ⟨by rfl, ?_⟩) hH ?_
          rotate_left
          · (intro w hSw; (try dsimp only at hSw); go_simp; try with_reducible rfl)
          simp only [Act.put, List.setIfInBounds_toArray, List.set_cons_zero, List.set_cons_succ]
          refine takeH (i := 15) (v := ?_) rfl (by kernel_rfl) (by kernel_rfl) (by kernel_rfl) (fun _ _ _ h => h) (Or.inl ⟨by rfl, ?_⟩) hH ?_
          rotate_left
          · (intro w hSw; (try dsimp only at hSw); go_simp; try with_reducible rfl)
          simp only [Act.put, List.setIfInBounds_toArray, List.set_cons_zero, List.set_cons_succ]
          refine oneH (i := 18) rfl (by kernel_rfl) (fun K hK => ?_)
          obtain ⟨v5, hv⟩ : ∃ W, W = set5 v4 gA (.int .i64 (kD r2)) (.int .i64 (nD r2)) (.string (sD r2)) (.slice bb (iD r2).length qq) (.slice bb' (mD r2).length qq') := ⟨_, rfl⟩
          obtain ⟨t0, t1, t2, t3, t4⟩ := row5 hRA
          have q0 := hRA.frozen 0
          have q1 := hRA.frozen 1
          have q2 := hRA.frozen 2
          have q3 := hRA.frozen 3
          have q4 := hRA.frozen 4
          have hRA2 : Row v5 gA 27 [.int .i64 (kD r2), .int .i64 (nD r2), .string (sD r2), .slice bb (iD r2).length qq, .slice bb' (mD r2).length qq'] := by rw [hv]; exact row_set5 hRA _ _ _ _ _
          have hRB : Row v5 gB 30 [.int .i64 0, .int .i64 0] := by rw [hv]; exact row_far5 hRB (Ne.symm (Row.ne_ hRA hRB (by decide))) _ _ _ _ _
          have hB : Below w3.heap.size w3 v5 := by rw [hv]; exact below_set5 hB hLA _ _ _ _ _
          have hKP : ∀ j, lp ≤ j → j < vp.heap.size → v5.heap[j]? = vp.heap[j]? := fun j j1 j2 => by rw [hv, set5_heap _ _ _ _ _ _ _ (by omega)]; exact hKP j j1 j2
          have hsp : vp.heap.size ≤ v5.heap.size := by rw [hv, set5_size]; exact hsp
          unfold set5 at hv
          go_simp
          rw [← hv]
          clear hv t0 t1 t2 t3 t4 q0 q1 q2 q3 q4 hRA hRS
          have hRA := hRA2
          clear hRA2
          refine hK.out _ _ trivial (fun hH => ?_)
          clear hK K
          have hne : gA ≠ gB := Row.ne_ hRA hRB (by decide)
          obtain ⟨wf, hwf⟩ : ∃ W, W = (v5.setCell ⟨gB, 0, none⟩ (.int .i64 0)).setCell ⟨gB, 1, none⟩ (.int .i64 0) := ⟨_, rfl⟩
          obtain ⟨k0, k1, k2, k3⟩ := strings_fin hRA hRB hne hB hLB hPP hKP hBP hsp hwf
          have t0 : v5.cell? ⟨gB, 0, none⟩ = some (.int .i64 0) := hRB.cell 0
          have t1 : v5.cell? ⟨gB, 1, none⟩ = some (.int .i64 0) := hRB.cell 1
          have q0 := hRB.frozen 0
          have q1 := hRB.frozen 1
          clear hRA hRB hB hPP hKP hAP hBP hsp
          refine oneH (i := 19) rfl (by kernel_rfl) (fun K hK => ?_)
          go_simp
          rw [← hwf]
          refine hK.out _ _ trivial (fun hH => ?_)
          clear hK K hwf t0 t1 q0 q1
          refine wpAnyH_done (by kernel_rfl) ?_ _
          have HK0 := hide k0; have HK1 := hide k1; have HK2 := hide k2; have HK3 := hide k3
          clear k0 k1 k2 k3 hH hs1 hs2 e1 e2 e4 l1 l2 hSS s1 s2 HU hp1 hne hLA hLB
          have hcvf := hcv wf
          go_upto_region 6 with fail
          obtain ⟨wg, hwg⟩ : ∃ W, W = wf.alloc (.cells #[.int .u8 (c.toNat : Int)] 5) := ⟨_, rfl⟩
          have hBg : Below wf.heap.size wf wg := by rw [hwg]; exact (Below.refl _ _).alloc (Nat.le_refl _) _
          have hsg : wf.heap.size + 1 = wg.heap.size := by rw [hwg]; simp
          rw [← hwg, hsg]
          obtain ⟨w7, g7, e1, e2, hB7, z0, z1, z2, z3, z4, hR7⟩ := boxD wg 4 0 T (.slice none 0 0) (.slice none 0 0)
          rw [e1, e2]
          have hBB := hBg.trans (hB7.mono hBg.size)
          have HB7 := hide (HB3.out.trans ((HK2.out.trans (hBB.mono HK2.out.size)).mono HB3.out.size))
          have hRA7 := HK0.out.below hBB
          have hRB7 := HK1.out.below hBB
          have hP7 := HK3.out.turn (Same.of_below hBB) hBB.size
          have hr3 := (HR3.out.1.below HK2.out).below hBB
          have hf3 := (HR3.out.2.below HK2.out).below hBB
          have hP3 := HP3.out.turn (Same.of_below (HK2.out.trans (hBB.mono HK2.out.size))) (HK2.out.trans (hBB.mono HK2.out.size)).size
          have HSR := hide fun W (h : Below w7.heap.size w7 W) => And.intro (row5 (hRA7.below h)) (row5 (hR7.below h))
          have HSA := hide fun W (h : Below w7.heap.size w7 W) => (strings_same HTT.out (hP3.turn (Same.of_below h) h.size) HM1.out s1b : Calls Tryd.prog 9 #[.agg #[.int .i64 (kD r1), .int .i64 (nD r1), .string (sD r1), .slice b2 (iD r1).length q2, .slice b2' (mD r1).length q2'], .agg #[.int .i64 4, .int .i64 0, .string T, .slice none 0 0, .slice none 0 0]] W fun e w' => e = .returned (.bool true) ∧ Below W.heap.size W w')
          have HSB := hide fun W (h : Below w7.heap.size w7 W) => (strings_same HTT.out (hP7.turn (Same.of_below h) h.size) HM2.out s2b : Calls Tryd.prog 9 #[.agg #[.int .i64 (kD r2), .int .i64 (nD r2), .string (sD r2), .slice bb (iD r2).length qq, .slice bb' (mD r2).length qq'], .agg #[.int .i64 4, .int .i64 0, .string T, .slice none 0 0, .slice none 0 0]] W fun e w' => e = .returned (.bool true) ∧ Below W.heap.size W w')
          have y0 : w7.cell? ⟨gB, 0, none⟩ = some (.int .i64 0) := hRB7.cell 0
          have y1 : w7.cell? ⟨gB, 1, none⟩ = some (.int .i64 0) := hRB7.cell 1
          have x0 : w7.cell? ⟨f3, 0, none⟩ = some (.int .i64 0) := hf3.cell 0
          have x1 : w7.cell? ⟨f3, 1, none⟩ = some (.int .i64 0) := hf3.cell 1
          obtain ⟨u0, u1, u2, u3, u4⟩ := row5 hr3
          clear hwg hBg hsg e1 e2 hBB hB7 hR7 hRA7 hRB7 hP7 hr3 hf3 hP3 HK0 HK1 HK2 HK3 HR3 HP3 hcvf hcv
          go_wp2_with fail
          refine (HSA.out _ (Below.refl _ _)).mono ?_; rintro e w8 ⟨rfl, hB8⟩
          obtain ⟨⟨u0', u1', u2', u3', u4'⟩, ⟨z0', z1', z2', z3', z4'⟩⟩ := HSR.out _ hB8
          have HX := hide (HSB.out _ hB8)
          have HB8 := hide (HB7.out.trans (hB8.mono HB7.out.size))
          clear u0 u1 u2 u3 u4 z0 z1 z2 z3 z4 y0 y1 x0 x1 hB8 HSA HSB HSR HB7
          go_wp2_with fail
          refine HX.out.mono ?_; rintro e w9 ⟨rfl, hB9⟩
          have HB9 := hide (HB8.out.trans (hB9.mono HB8.out.size))
          have HY := hide (HE.out _ HB9.out)
          clear hB9 HX HB8 u0' u1' u2' u3' u4' z0' z1' z2' z3' z4'
          go_wp2_with fail
          refine HY.out.mono ?_; rintro e w10 ⟨rfl, hB10⟩
          have HB10 := hide (HB9.out.trans (hB10.mono HB9.out.size))
          go_wp2_with fail
          go_ret
          exact ⟨rfl, HB10.out⟩
      · skip
        go_simp
        obtain ⟨v2, hv⟩ : ∃ W, W = v1.alloc (.cells #[.int .i64 0, .int .i64 0] 30) := ⟨_, rfl⟩
        obtain ⟨gB, hg⟩ : ∃ g, g = v1.heap.size := ⟨_, rfl⟩
        rw [← hv, ← hg]
        have hRB : Row v2 gB 30 [.int .i64 0, .int .i64 0] := by rw [hv, hg]; exact Row.new v1 _ _
        have hb2 : Below v1.heap.size v1 v2 := by rw [hv]; exact (Below.refl _ _).alloc (Nat.le_refl _) _
        have hLB : w3.heap.size ≤ gB := by rw [hg]; exact hB.size
        have hB := hB.trans (hb2.mono hB.size)
        have hRS := hRS.below hb2
        clear hv hg hb2
        refine hK.out _ _ trivial (fun hH => ?_)
        clear hK K
        refine twoH (i := 12) (j := 16) rfl rfl (by kernel_rfl) (fun K hK => ?_) (fun K hK => ?_)
        · skip
          have hqB := hRB.lt
          go_simp
          go_at_call 8
          refine (HP2.out v2).mono ?_; rintro e v3 ⟨bb, qq, bb', qq', rfl, hPP, hb3⟩
          have hB := hB.trans (hb3.mono hB.size)
          have hRB := hRB.below hb3
          have hRS := hRS.below hb3
          obtain ⟨lp, hlp⟩ : ∃ l, l = v2.heap.size := ⟨_, rfl⟩
          rw [← hlp] at hPP
          obtain ⟨vp, hvp⟩ : ∃ W, W = v3 := ⟨_, rfl⟩
          rw [← hvp] at hPP
          have hKP : ∀ j, lp ≤ j → j < vp.heap.size → v3.heap[j]? = vp.heap[j]? := fun j _ _ => by rw [hvp]
          have hsp : vp.heap.size ≤ v3.heap.size := by rw [hvp]; exact Nat.le_refl _
          have hBP : gB < lp ∨ vp.heap.size ≤ gB := .inl (by rw [hlp]; exact hqB)
          clear hb3 hlp hvp hqB
          refine hK.out _ _ trivial (fun hH => ?_)
          clear hK K
          refine takeH (i := 13) (v := ?_) rfl (by kernel_rfl) (by kernel_rfl) (by kernel_rfl) (fun _ _ _ h => h) (Or.inl ⟨by rfl, ?_⟩) hH ?_
          rotate_left
          · (intro w hSw; (try dsimp only at hSw); go_simp; try with_reducible rfl)
          simp only [Act.put, List.setIfInBounds_toArray, List.set_cons_zero, List.set_cons_succ]
          refine takeH (i := 14) (v := ?_) rfl (by kernel_rfl) (by kernel_rfl) (by kernel_rfl) (fun _ _ _ h => h) (Or.inl ⟨by rfl, ?_⟩) hH ?_
          rotate_left
          · (intro w hSw; (try dsimp only at hSw); go_simp; try with_reducible rfl)
          simp only [Act.put, List.setIfInBounds_toArray, List.set_cons_zero, List.set_cons_succ]
          refine takeH (i := 15) (v := ?_) rfl (by kernel_rfl) (by kernel_rfl) (by kernel_rfl) (fun _ _ _ h => h) (Or.inl ⟨by rfl, ?_⟩) hH ?_
          rotate_left
          · (intro w hSw; (try dsimp only at hSw); go_simp; try with_reducible rfl)
          simp only [Act.put, List.setIfInBounds_toArray, List.set_cons_zero, List.set_cons_succ]
          refine oneH (i := 16) rfl (by kernel_rfl) (fun K hK => ?_)
          go_simp
          obtain ⟨v4, hv⟩ : ∃ W, W = v3.alloc (.cells #[.int .i64 0, .int .i64 0, .string ⟨#[]⟩, .slice none 0 0, .slice none 0 0] 27) := ⟨_, rfl⟩
          obtain ⟨gA, hg⟩ : ∃ g, g = v3.heap.size := ⟨_, rfl⟩
          rw [← hv, ← hg]
          have hRA : Row v4 gA 27 [.int .i64 0, .int .i64 0, .string ⟨#[]⟩, .slice none 0 0, .slice none 0 0] := by rw [hv, hg]; exact Row.new v3 _ _
          have hb4 : Below v3.heap.size v3 v4 := by rw [hv]; exact (Below.refl _ _).alloc (Nat.le_refl _) _
          have hLA : w3.heap.size ≤ gA := by rw [hg]; exact hB.size
          have hAP : gA < lp ∨ vp.heap.size ≤ gA := .inr (by rw [hg]; exact hsp)
          have hB := hB.trans (hb4.mono hB.size)
          have hRB := hRB.below hb4
          have hRS := hRS.below hb4
          have hKP := fun j (j1 : lp ≤ j) (j2 : j < vp.heap.size) => (hb4.block j (Nat.lt_of_lt_of_le j2 hsp)).trans (hKP j j1 j2)
          have hsp := Nat.le_trans hsp hb4.size
          clear hv hg hb4
          refine hK.out _ _ trivial (fun hH => ?_)
          clear hK K
          refine oneH (i := 18) rfl (by kernel_rfl) (fun K hK => ?_)
          obtain ⟨v5, hv⟩ : ∃ W, W = set5 v4 gA (.int .i64 (kD r2)) (.int .i64 (nD r2)) (.string (sD r2)) (.slice bb (iD r2).length qq) (.slice bb' (mD r2).length qq') := ⟨_, rfl⟩
          obtain ⟨t0, t1, t2, t3, t4⟩ := row5 hRA
          have q0 := hRA.frozen 0
          have q1 := hRA.frozen 1
          have q2 := hRA.frozen 2
          have q3 := hRA.frozen 3
          have q4 := hRA.frozen 4
          have hRA2 : Row v5 gA 27 [.int .i64 (kD r2), .int .i64 (nD r2), .string (sD r2), .slice bb (iD r2).length qq, .slice bb' (mD r2).length qq'] := by rw [hv]; exact row_set5 hRA _ _ _ _ _
          have hRB : Row v5 gB 30 [.int .i64 0, .int .i64 0] := by rw [hv]; exact row_far5 hRB (Ne.symm (Row.ne_ hRA hRB (by decide))) _ _ _ _ _
          have hB : Below w3.heap.size w3 v5 := by rw [hv]; exact below_set5 hB hLA _ _ _ _ _
          have hKP : ∀ j, lp ≤ j → j < vp.heap.size → v5.heap[j]? = vp.heap[j]? := fun j j1 j2 => by rw [hv, set5_heap _ _ _ _ _ _ _ (by omega)]; exact hKP j j1 j2
          have hsp : vp.heap.size ≤ v5.heap.size := by rw [hv, set5_size]; exact hsp
          unfold set5 at hv
          go_simp
          rw [← hv]
          clear hv t0 t1 t2 t3 t4 q0 q1 q2 q3 q4 hRA hRS
          have hRA := hRA2
          clear hRA2
          refine hK.out _ _ trivial (fun hH => ?_)
          clear hK K
          have hne : gA ≠ gB := Row.ne_ hRA hRB (by decide)
          obtain ⟨wf, hwf⟩ : ∃ W, W = (v5.setCell ⟨gB, 0, none⟩ (.int .i64 0)).setCell ⟨gB, 1, none⟩ (.int .i64 0) := ⟨_, rfl⟩
          obtain ⟨k0, k1, k2, k3⟩ := strings_fin hRA hRB hne hB hLB hPP hKP hBP hsp hwf
          have t0 : v5.cell? ⟨gB, 0, none⟩ = some (.int .i64 0) := hRB.cell 0
          have t1 : v5.cell? ⟨gB, 1, none⟩ = some (.int .i64 0) := hRB.cell 1
          have q0 := hRB.frozen 0
          have q1 := hRB.frozen 1
          clear hRA hRB hB hPP hKP hAP hBP hsp
          refine oneH (i := 19) rfl (by kernel_rfl) (fun K hK => ?_)
          go_simp
          rw [← hwf]
          refine hK.out _ _ trivial (fun hH => ?_)
          clear hK K hwf t0 t1 q0 q1
          refine wpAnyH_done (by kernel_rfl) ?_ _
          have HK0 := hide k0; have HK1 := hide k1; have HK2 := hide k2; have HK3 := hide k3
          clear k0 k1 k2 k3 hH hs1 hs2 e1 e2 e4 l1 l2 hSS s1 s2 HU hp1 hne hLA hLB
          have hcvf := hcv wf
          go_upto_region 6 with fail
          obtain ⟨wg, hwg⟩ : ∃ W, W = wf.alloc (.cells #[.int .u8 (c.toNat : Int)] 5) := ⟨_, rfl⟩
          have hBg : Below wf.heap.size wf wg := by rw [hwg]; exact (Below.refl _ _).alloc (Nat.le_refl _) _
          have hsg : wf.heap.size + 1 = wg.heap.size := by rw [hwg]; simp
          rw [← hwg, hsg]
          obtain ⟨w7, g7, e1, e2, hB7, z0, z1, z2, z3, z4, hR7⟩ := boxD wg 4 0 T (.slice none 0 0) (.slice none 0 0)
          rw [e1, e2]
          have hBB := hBg.trans (hB7.mono hBg.size)
          have HB7 := hide (HB3.out.trans ((HK2.out.trans (hBB.mono HK2.out.size)).mono HB3.out.size))
          have hRA7 := HK0.out.below hBB
          have hRB7 := HK1.out.below hBB
          have hP7 := HK3.out.turn (Same.of_below hBB) hBB.size
          have hr3 := (HR3.out.1.below HK2.out).below hBB
          have hf3 := (HR3.out.2.below HK2.out).below hBB
          have hP3 := HP3.out.turn (Same.of_below (HK2.out.trans (hBB.mono HK2.out.size))) (HK2.out.trans (hBB.mono HK2.out.size)).size
          have HSR := hide fun W (h : Below w7.heap.size w7 W) => And.intro (row5 (hRA7.below h)) (row5 (hR7.below h))
          have HSA := hide fun W (h : Below w7.heap.size w7 W) => (strings_same HTT.out (hP3.turn (Same.of_below h) h.size) HM1.out s1b : Calls Tryd.prog 9 #[.agg #[.int .i64 (kD r1), .int .i64 (nD r1), .string (sD r1), .slice b2 (iD r1).length q2, .slice b2' (mD r1).length q2'], .agg #[.int .i64 4, .int .i64 0, .string T, .slice none 0 0, .slice none 0 0]] W fun e w' => e = .returned (.bool true) ∧ Below W.heap.size W w')
          have HSB := hide fun W (h : Below w7.heap.size w7 W) => (strings_same HTT.out (hP7.turn (Same.of_below h) h.size) HM2.out s2b : Calls Tryd.prog 9 #[.agg #[.int .i64 (kD r2), .int .i64 (nD r2), .string (sD r2), .slice bb (iD r2).length qq, .slice bb' (mD r2).length qq'], .agg #[.int .i64 4, .int .i64 0, .string T, .slice none 0 0, .slice none 0 0]] W fun e w' => e = .returned (.bool true) ∧ Below W.heap.size W w')
          have y0 : w7.cell? ⟨gB, 0, none⟩ = some (.int .i64 0) := hRB7.cell 0
          have y1 : w7.cell? ⟨gB, 1, none⟩ = some (.int .i64 0) := hRB7.cell 1
          have x0 : w7.cell? ⟨f3, 0, none⟩ = some (.int .i64 0) := hf3.cell 0
          have x1 : w7.cell? ⟨f3, 1, none⟩ = some (.int .i64 0) := hf3.cell 1
          obtain ⟨u0, u1, u2, u3, u4⟩ := row5 hr3
          clear hwg hBg hsg e1 e2 hBB hB7 hR7 hRA7 hRB7 hP7 hr3 hf3 hP3 HK0 HK1 HK2 HK3 HR3 HP3 hcvf hcv
          go_wp2_with fail
          refine (HSA.out _ (Below.refl _ _)).mono ?_; rintro e w8 ⟨rfl, hB8⟩
          obtain ⟨⟨u0', u1', u2', u3', u4'⟩, ⟨z0', z1', z2', z3', z4'⟩⟩ := HSR.out _ hB8
          have HX := hide (HSB.out _ hB8)
          have HB8 := hide (HB7.out.trans (hB8.mono HB7.out.size))
          clear u0 u1 u2 u3 u4 z0 z1 z2 z3 z4 y0 y1 x0 x1 hB8 HSA HSB HSR HB7
          go_wp2_with fail
          refine HX.out.mono ?_; rintro e w9 ⟨rfl, hB9⟩
          have HB9 := hide (HB8.out.trans (hB9.mono HB8.out.size))
          have HY := hide (HE.out _ HB9.out)
          clear hB9 HX HB8 u0' u1' u2' u3' u4' z0' z1' z2' z3' z4'
          go_wp2_with fail
          refine HY.out.mono ?_; rintro e w10 ⟨rfl, hB10⟩
          have HB10 := hide (HB9.out.trans (hB10.mono HB9.out.size))
          go_wp2_with fail
          go_ret
          exact ⟨rfl, HB10.out⟩
        · skip
          go_simp
          obtain ⟨v3, hv⟩ : ∃ W, W = v2.alloc (.cells #[.int .i64 0, .int .i64 0, .string ⟨#[]⟩, .slice none 0 0, .slice none 0 0] 27) := ⟨_, rfl⟩
          obtain ⟨gA, hg⟩ : ∃ g, g = v2.heap.size := ⟨_, rfl⟩
          rw [← hv, ← hg]
          have hRA : Row v3 gA 27 [.int .i64 0, .int .i64 0, .string ⟨#[]⟩, .slice none 0 0, .slice none 0 0] := by rw [hv, hg]; exact Row.new v2 _ _
          have hb3 : Below v2.heap.size v2 v3 := by rw [hv]; exact (Below.refl _ _).alloc (Nat.le_refl _) _
          have hLA : w3.heap.size ≤ gA := by rw [hg]; exact hB.size
          have hB := hB.trans (hb3.mono hB.size)
          have hRB := hRB.below hb3
          have hRS := hRS.below hb3
          clear hv hg hb3
          refine hK.out _ _ trivial (fun hH => ?_)
          clear hK K
          refine oneH (i := 12) rfl (by kernel_rfl) (fun K hK => ?_)
          have hqA := hRA.lt
          have hqB := hRB.lt
          go_simp
          go_at_call 8
          refine (HP2.out v3).mono ?_; rintro e v4 ⟨bb, qq, bb', qq', rfl, hPP, hb4⟩
          have hB := hB.trans (hb4.mono hB.size)
          have hRA := hRA.below hb4
          have hRB := hRB.below hb4
          have hRS := hRS.below hb4
          obtain ⟨lp, hlp⟩ : ∃ l, l = v3.heap.size := ⟨_, rfl⟩
          rw [← hlp] at hPP
          obtain ⟨vp, hvp⟩ : ∃ W, W = v4 := ⟨_, rfl⟩
          rw [← hvp] at hPP
          have hKP : ∀ j, lp ≤ j → j < vp.heap.size → v4.heap[j]? = vp.heap[j]? := fun j _ _ => by rw [hvp]
          have hsp : vp.heap.size ≤ v4.heap.size := by rw [hvp]; exact Nat.le_refl _
          have hAP : gA < lp ∨ vp.heap.size ≤ gA := .inl (by rw [hlp]; exact hqA)
          have hBP : gB < lp ∨ vp.heap.size ≤ gB := .inl (by rw [hlp]; exact hqB)
          clear hb4 hlp hvp hqA hqB
          refine hK.out _ _ trivial (fun hH => ?_)
          clear hK K
          refine takeH (i := 13) (v := ?_) rfl (by kernel_rfl) (by kernel_rfl) (by kernel_rfl) (fun _ _ _ h => h) (Or.inl ⟨by rfl, ?_⟩) hH ?_
          rotate_left
          · (intro w hSw; (try dsimp only at hSw); go_simp; try with_reducible rfl)
          simp only [Act.put, List.setIfInBounds_toArray, List.set_cons_zero, List.set_cons_succ]
          refine takeH (i := 14) (v := ?_) rfl (by kernel_rfl) (by kernel_rfl) (by kernel_rfl) (fun _ _ _ h => h) (Or.inl ⟨by rfl, ?_⟩) hH ?_
          rotate_left
          · (intro w hSw; (try dsimp only at hSw); go_simp; try with_reducible rfl)
          simp only [Act.put, List.setIfInBounds_toArray, List.set_cons_zero, List.set_cons_succ]
          refine takeH (i := 15) (v := ?_) rfl (by kernel_rfl) (by kernel_rfl) (by kernel_rfl) (fun _ _ _ h => h) (Or.inl ⟨by rfl, ?_⟩) hH ?_
          rotate_left
          · (intro w hSw; (try dsimp only at hSw); go_simp; try with_reducible rfl)
          simp only [Act.put, List.setIfInBounds_toArray, List.set_cons_zero, List.set_cons_succ]
          refine oneH (i := 18) rfl (by kernel_rfl) (fun K hK => ?_)
          obtain ⟨v5, hv⟩ : ∃ W, W = set5 v4 gA (.int .i64 (kD r2)) (.int .i64 (nD r2)) (.string (sD r2)) (.slice bb (iD r2).length qq) (.slice bb' (mD r2).length qq') := ⟨_, rfl⟩
          obtain ⟨t0, t1, t2, t3, t4⟩ := row5 hRA
          have q0 := hRA.frozen 0
          have q1 := hRA.frozen 1
          have q2 := hRA.frozen 2
          have q3 := hRA.frozen 3
          have q4 := hRA.frozen 4
          have hRA2 : Row v5 gA 27 [.int .i64 (kD r2), .int .i64 (nD r2), .string (sD r2), .slice bb (iD r2).length qq, .slice bb' (mD r2).length qq'] := by rw [hv]; exact row_set5 hRA _ _ _ _ _
          have hRB : Row v5 gB 30 [.int .i64 0, .int .i64 0] := by rw [hv]; exact row_far5 hRB (Ne.symm (Row.ne_ hRA hRB (by decide))) _ _ _ _ _
          have hB : Below w3.heap.size w3 v5 := by rw [hv]; exact below_set5 hB hLA _ _ _ _ _
          have hKP : ∀ j, lp ≤ j → j < vp.heap.size → v5.heap[j]? = vp.heap[j]? := fun j j1 j2 => by rw [hv, set5_heap _ _ _ _ _ _ _ (by omega)]; exact hKP j j1 j2
          have hsp : vp.heap.size ≤ v5.heap.size := by rw [hv, set5_size]; exact hsp
          unfold set5 at hv
          go_simp
          rw [← hv]
          clear hv t0 t1 t2 t3 t4 q0 q1 q2 q3 q4 hRA hRS
          have hRA := hRA2
          clear hRA2
          refine hK.out _ _ trivial (fun hH => ?_)
          clear hK K
          have hne : gA ≠ gB := Row.ne_ hRA hRB (by decide)
          obtain ⟨wf, hwf⟩ : ∃ W, W = (v5.setCell ⟨gB, 0, none⟩ (.int .i64 0)).setCell ⟨gB, 1, none⟩ (.int .i64 0) := ⟨_, rfl⟩
          obtain ⟨k0, k1, k2, k3⟩ := strings_fin hRA hRB hne hB hLB hPP hKP hBP hsp hwf
          have t0 : v5.cell? ⟨gB, 0, none⟩ = some (.int .i64 0) := hRB.cell 0
          have t1 : v5.cell? ⟨gB, 1, none⟩ = some (.int .i64 0) := hRB.cell 1
          have q0 := hRB.frozen 0
          have q1 := hRB.frozen 1
          clear hRA hRB hB hPP hKP hAP hBP hsp
          refine oneH (i := 19) rfl (by kernel_rfl) (fun K hK => ?_)
          go_simp
          rw [← hwf]
          refine hK.out _ _ trivial (fun hH => ?_)
          clear hK K hwf t0 t1 q0 q1
          refine wpAnyH_done (by kernel_rfl) ?_ _
          have HK0 := hide k0; have HK1 := hide k1; have HK2 := hide k2; have HK3 := hide k3
          clear k0 k1 k2 k3 hH hs1 hs2 e1 e2 e4 l1 l2 hSS s1 s2 HU hp1 hne hLA hLB
          have hcvf := hcv wf
          go_upto_region 6 with fail
          obtain ⟨wg, hwg⟩ : ∃ W, W = wf.alloc (.cells #[.int .u8 (c.toNat : Int)] 5) := ⟨_, rfl⟩
          have hBg : Below wf.heap.size wf wg := by rw [hwg]; exact (Below.refl _ _).alloc (Nat.le_refl _) _
          have hsg : wf.heap.size + 1 = wg.heap.size := by rw [hwg]; simp
          rw [← hwg, hsg]
          obtain ⟨w7, g7, e1, e2, hB7, z0, z1, z2, z3, z4, hR7⟩ := boxD wg 4 0 T (.slice none 0 0) (.slice none 0 0)
          rw [e1, e2]
          have hBB := hBg.trans (hB7.mono hBg.size)
          have HB7 := hide (HB3.out.trans ((HK2.out.trans (hBB.mono HK2.out.size)).mono HB3.out.size))
          have hRA7 := HK0.out.below hBB
          have hRB7 := HK1.out.below hBB
          have hP7 := HK3.out.turn (Same.of_below hBB) hBB.size
          have hr3 := (HR3.out.1.below HK2.out).below hBB
          have hf3 := (HR3.out.2.below HK2.out).below hBB
          have hP3 := HP3.out.turn (Same.of_below (HK2.out.trans (hBB.mono HK2.out.size))) (HK2.out.trans (hBB.mono HK2.out.size)).size
          have HSR := hide fun W (h : Below w7.heap.size w7 W) => And.intro (row5 (hRA7.below h)) (row5 (hR7.below h))
          have HSA := hide fun W (h : Below w7.heap.size w7 W) => (strings_same HTT.out (hP3.turn (Same.of_below h) h.size) HM1.out s1b : Calls Tryd.prog 9 #[.agg #[.int .i64 (kD r1), .int .i64 (nD r1), .string (sD r1), .slice b2 (iD r1).length q2, .slice b2' (mD r1).length q2'], .agg #[.int .i64 4, .int .i64 0, .string T, .slice none 0 0, .slice none 0 0]] W fun e w' => e = .returned (.bool true) ∧ Below W.heap.size W w')
          have HSB := hide fun W (h : Below w7.heap.size w7 W) => (strings_same HTT.out (hP7.turn (Same.of_below h) h.size) HM2.out s2b : Calls Tryd.prog 9 #[.agg #[.int .i64 (kD r2), .int .i64 (nD r2), .string (sD r2), .slice bb (iD r2).length qq, .slice bb' (mD r2).length qq'], .agg #[.int .i64 4, .int .i64 0, .string T, .slice none 0 0, .slice none 0 0]] W fun e w' => e = .returned (.bool true) ∧ Below W.heap.size W w')
          have y0 : w7.cell? ⟨gB, 0, none⟩ = some (.int .i64 0) := hRB7.cell 0
          have y1 : w7.cell? ⟨gB, 1, none⟩ = some (.int .i64 0) := hRB7.cell 1
          have x0 : w7.cell? ⟨f3, 0, none⟩ = some (.int .i64 0) := hf3.cell 0
          have x1 : w7.cell? ⟨f3, 1, none⟩ = some (.int .i64 0) := hf3.cell 1
          obtain ⟨u0, u1, u2, u3, u4⟩ := row5 hr3
          clear hwg hBg hsg e1 e2 hBB hB7 hR7 hRA7 hRB7 hP7 hr3 hf3 hP3 HK0 HK1 HK2 HK3 HR3 HP3 hcvf hcv
          go_wp2_with fail
          refine (HSA.out _ (Below.refl _ _)).mono ?_; rintro e w8 ⟨rfl, hB8⟩
          obtain ⟨⟨u0', u1', u2', u3', u4'⟩, ⟨z0', z1', z2', z3', z4'⟩⟩ := HSR.out _ hB8
          have HX := hide (HSB.out _ hB8)
          have HB8 := hide (HB7.out.trans (hB8.mono HB7.out.size))
          clear u0 u1 u2 u3 u4 z0 z1 z2 z3 z4 y0 y1 x0 x1 hB8 HSA HSB HSR HB7
          go_wp2_with fail
          refine HX.out.mono ?_; rintro e w9 ⟨rfl, hB9⟩
          have HB9 := hide (HB8.out.trans (hB9.mono HB8.out.size))
          have HY := hide (HE.out _ HB9.out)
          clear hB9 HX HB8 u0' u1' u2' u3' u4' z0' z1' z2' z3' z4'
          go_wp2_with fail
          refine HY.out.mono ?_; rintro e w10 ⟨rfl, hB10⟩
          have HB10 := hide (HB9.out.trans (hB10.mono HB9.out.size))
          go_wp2_with fail
          go_ret
          exact ⟨rfl, HB10.out⟩
    · skip
      go_simp
      obtain ⟨v2, hv⟩ : ∃ W, W = v1.alloc (.cells #[.int .i64 0, .int .i64 0, .string ⟨#[]⟩, .slice none 0 0, .slice none 0 0] 27) := ⟨_, rfl⟩
      obtain ⟨gA, hg⟩ : ∃ g, g = v1.heap.size := ⟨_, rfl⟩
      rw [← hv, ← hg]
      have hRA : Row v2 gA 27 [.int .i64 0, .int .i64 0, .string ⟨#[]⟩, .slice none 0 0, .slice none 0 0] := by rw [hv, hg]; exact Row.new v1 _ _
      have hb2 : Below v1.heap.size v1 v2 := by rw [hv]; exact (Below.refl _ _).alloc (Nat.le_refl _) _
      have hLA : w3.heap.size ≤ gA := by rw [hg]; exact hB.size
      have hB := hB.trans (hb2.mono hB.size)
      have hRS := hRS.below hb2
      clear hv hg hb2
      refine hK.out _ _ trivial (fun hH => ?_)
      clear hK K
      refine twoH (i := 9) (j := 17) rfl rfl (by kernel_rfl) (fun K hK => ?_) (fun K hK => ?_)
      · skip
        have hcv2 := RowY.str hRS 2 2 (Nat.le_refl _)
        rw [show [hexN hi, hexU lo].take 2 = [hexN hi, hexU lo] from rfl] at hcv2
        go_simp
        clear hcv2
        refine hK.out _ _ trivial (fun hH => ?_)
        clear hK K
        refine takeH (i := 10) (v := ?_) rfl (by kernel_rfl) (by kernel_rfl) (by kernel_rfl) (fun _ _ _ h => h) (Or.inl ⟨by rfl, ?_⟩) hH ?_
        rotate_left
        · (intro w hSw; (try dsimp only at hSw); go_simp; try with_reducible rfl)
        simp only [Act.put, List.setIfInBounds_toArray, List.set_cons_zero, List.set_cons_succ]
        refine takeH (i := 11) (v := ?_) rfl (by kernel_rfl) (by kernel_rfl) (by kernel_rfl) (fun _ _ _ h => h) (Or.inl ⟨by rfl, ?_⟩) hH ?_
        rotate_left
        · (intro w hSw; (try dsimp only at hSw); go_simp; try with_reducible rfl)
        simp only [Act.put, List.setIfInBounds_toArray, List.set_cons_zero, List.set_cons_succ]
        refine twoH (i := 12) (j := 17) rfl rfl (by kernel_rfl) (fun K hK => ?_) (fun K hK => ?_)
        · skip
          have hqA := hRA.lt
          go_simp
          go_at_call 8
          refine (HP2.out v2).mono ?_; rintro e v3 ⟨bb, qq, bb', qq', rfl, hPP, hb3⟩
          have hB := hB.trans (hb3.mono hB.size)
          have hRA := hRA.below hb3
          have hRS := hRS.below hb3
          obtain ⟨lp, hlp⟩ : ∃ l, l = v2.heap.size := ⟨_, rfl⟩
          rw [← hlp] at hPP
          obtain ⟨vp, hvp⟩ : ∃ W, W = v3 := ⟨_, rfl⟩
          rw [← hvp] at hPP
          have hKP : ∀ j, lp ≤ j → j < vp.heap.size → v3.heap[j]? = vp.heap[j]? := fun j _ _ => by rw [hvp]
          have hsp : vp.heap.size ≤ v3.heap.size := by rw [hvp]; exact Nat.le_refl _
          have hAP : gA < lp ∨ vp.heap.size ≤ gA := .inl (by rw [hlp]; exact hqA)
          clear hb3 hlp hvp hqA
          refine hK.out _ _ trivial (fun hH => ?_)
          clear hK K
          refine takeH (i := 13) (v := ?_) rfl (by kernel_rfl) (by kernel_rfl) (by kernel_rfl) (fun _ _ _ h => h) (Or.inl ⟨by rfl, ?_⟩) hH ?_
          rotate_left
          · (intro w hSw; (try dsimp only at hSw); go_simp; try with_reducible rfl)
          simp only [Act.put, List.setIfInBounds_toArray, List.set_cons_zero, List.set_cons_succ]
          refine takeH (i := 14) (v := ?_) rfl (by kernel_rfl) (by kernel_rfl) (by kernel_rfl) (fun _ _ _ h => h) (Or.inl ⟨by rfl, ?_⟩) hH ?_
          rotate_left
          · (intro w hSw; (try dsimp only at hSw); go_simp; try with_reducible rfl)
          simp only [Act.put, List.setIfInBounds_toArray, List.set_cons_zero, List.set_cons_succ]
          refine takeH (i := 15) (v := ?_) rfl (by kernel_rfl) (by kernel_rfl) (by kernel_rfl) (fun _ _ _ h => h) (Or.inl ⟨by rfl, ?_⟩) hH ?_
          rotate_left
          · (intro w hSw; (try dsimp only at hSw); go_simp; try with_reducible rfl)
          simp only [Act.put, List.setIfInBounds_toArray, List.set_cons_zero, List.set_cons_succ]
          refine oneH (i := 17) rfl (by kernel_rfl) (fun K hK => ?_)
          go_simp
          obtain ⟨v4, hv⟩ : ∃ W, W = v3.alloc (.cells #[.int .i64 0, .int .i64 0] 30) := ⟨_, rfl⟩
          obtain ⟨gB, hg⟩ : ∃ g, g = v3.heap.size := ⟨_, rfl⟩
          rw [← hv, ← hg]
          have hRB : Row v4 gB 30 [.int .i64 0, .int .i64 0] := by rw [hv, hg]; exact Row.new v3 _ _
          have hb4 : Below v3.heap.size v3 v4 := by rw [hv]; exact (Below.refl _ _).alloc (Nat.le_refl _) _
          have hLB : w3.heap.size ≤ gB := by rw [hg]; exact hB.size
          have hBP : gB < lp ∨ vp.heap.size ≤ gB := .inr (by rw [hg]; exact hsp)
          have hB := hB.trans (hb4.mono hB.size)
          have hRA := hRA.below hb4
          have hRS := hRS.below hb4
          have hKP := fun j (j1 : lp ≤ j) (j2 : j < vp.heap.size) => (hb4.block j (Nat.lt_of_lt_of_le j2 hsp)).trans (hKP j j1 j2)
          have hsp := Nat.le_trans hsp hb4.size
          clear hv hg hb4
          refine hK.out _ _ trivial (fun hH => ?_)
          clear hK K
          refine oneH (i := 18) rfl (by kernel_rfl) (fun K hK => ?_)
          obtain ⟨v5, hv⟩ : ∃ W, W = set5 v4 gA (.int .i64 (kD r2)) (.int .i64 (nD r2)) (.string (sD r2)) (.slice bb (iD r2).length qq) (.slice bb' (mD r2).length qq') := ⟨_, rfl⟩
          obtain ⟨t0, t1, t2, t3, t4⟩ := row5 hRA
          have q0 := hRA.frozen 0
          have q1 := hRA.frozen 1
          have q2 := hRA.frozen 2
          have q3 := hRA.frozen 3
          have q4 := hRA.frozen 4
          have hRA2 : Row v5 gA 27 [.int .i64 (kD r2), .int .i64 (nD r2), .string (sD r2), .slice bb (iD r2).length qq, .slice bb' (mD r2).length qq'] := by rw [hv]; exact row_set5 hRA _ _ _ _ _
          have hRB : Row v5 gB 30 [.int .i64 0, .int .i64 0] := by rw [hv]; exact row_far5 hRB (Ne.symm (Row.ne_ hRA hRB (by decide))) _ _ _ _ _
          have hB : Below w3.heap.size w3 v5 := by rw [hv]; exact below_set5 hB hLA _ _ _ _ _
          have hKP : ∀ j, lp ≤ j → j < vp.heap.size → v5.heap[j]? = vp.heap[j]? := fun j j1 j2 => by rw [hv, set5_heap _ _ _ _ _ _ _ (by omega)]; exact hKP j j1 j2
          have hsp : vp.heap.size ≤ v5.heap.size := by rw [hv, set5_size]; exact hsp
          unfold set5 at hv
          go_simp
          rw [← hv]
          clear hv t0 t1 t2 t3 t4 q0 q1 q2 q3 q4 hRA hRS
          have hRA := hRA2
          clear hRA2
          refine hK.out _ _ trivial (fun hH => ?_)
          clear hK K
          have hne : gA ≠ gB := Row.ne_ hRA hRB (by decide)
          obtain ⟨wf, hwf⟩ : ∃ W, W = (v5.setCell ⟨gB, 0, none⟩ (.int .i64 0)).setCell ⟨gB, 1, none⟩ (.int .i64 0) := ⟨_, rfl⟩
          obtain ⟨k0, k1, k2, k3⟩ := strings_fin hRA hRB hne hB hLB hPP hKP hBP hsp hwf
          have t0 : v5.cell? ⟨gB, 0, none⟩ = some (.int .i64 0) := hRB.cell 0
          have t1 : v5.cell? ⟨gB, 1, none⟩ = some (.int .i64 0) := hRB.cell 1
          have q0 := hRB.frozen 0
          have q1 := hRB.frozen 1
          clear hRA hRB hB hPP hKP hAP hBP hsp
          refine oneH (i := 19) rfl (by kernel_rfl) (fun K hK => ?_)
          go_simp
          rw [← hwf]
          refine hK.out _ _ trivial (fun hH => ?_)
          clear hK K hwf t0 t1 q0 q1
          refine wpAnyH_done (by kernel_rfl) ?_ _
          have HK0 := hide k0; have HK1 := hide k1; have HK2 := hide k2; have HK3 := hide k3
          clear k0 k1 k2 k3 hH hs1 hs2 e1 e2 e4 l1 l2 hSS s1 s2 HU hp1 hne hLA hLB
          have hcvf := hcv wf
          go_upto_region 6 with fail
          obtain ⟨wg, hwg⟩ : ∃ W, W = wf.alloc (.cells #[.int .u8 (c.toNat : Int)] 5) := ⟨_, rfl⟩
          have hBg : Below wf.heap.size wf wg := by rw [hwg]; exact (Below.refl _ _).alloc (Nat.le_refl _) _
          have hsg : wf.heap.size + 1 = wg.heap.size := by rw [hwg]; simp
          rw [← hwg, hsg]
          obtain ⟨w7, g7, e1, e2, hB7, z0, z1, z2, z3, z4, hR7⟩ := boxD wg 4 0 T (.slice none 0 0) (.slice none 0 0)
          rw [e1, e2]
          have hBB := hBg.trans (hB7.mono hBg.size)
          have HB7 := hide (HB3.out.trans ((HK2.out.trans (hBB.mono HK2.out.size)).mono HB3.out.size))
          have hRA7 := HK0.out.below hBB
          have hRB7 := HK1.out.below hBB
          have hP7 := HK3.out.turn (Same.of_below hBB) hBB.size
          have hr3 := (HR3.out.1.below HK2.out).below hBB
          have hf3 := (HR3.out.2.below HK2.out).below hBB
          have hP3 := HP3.out.turn (Same.of_below (HK2.out.trans (hBB.mono HK2.out.size))) (HK2.out.trans (hBB.mono HK2.out.size)).size
          have HSR := hide fun W (h : Below w7.heap.size w7 W) => And.intro (row5 (hRA7.below h)) (row5 (hR7.below h))
          have HSA := hide fun W (h : Below w7.heap.size w7 W) => (strings_same HTT.out (hP3.turn (Same.of_below h) h.size) HM1.out s1b : Calls Tryd.prog 9 #[.agg #[.int .i64 (kD r1), .int .i64 (nD r1), .string (sD r1), .slice b2 (iD r1).length q2, .slice b2' (mD r1).length q2'], .agg #[.int .i64 4, .int .i64 0, .string T, .slice none 0 0, .slice none 0 0]] W fun e w' => e = .returned (.bool true) ∧ Below W.heap.size W w')
          have HSB := hide fun W (h : Below w7.heap.size w7 W) => (strings_same HTT.out (hP7.turn (Same.of_below h) h.size) HM2.out s2b : Calls Tryd.prog 9 #[.agg #[.int .i64 (kD r2), .int .i64 (nD r2), .string (sD r2), .slice bb (iD r2).length qq, .slice bb' (mD r2).length qq'], .agg #[.int .i64 4, .int .i64 0, .string T, .slice none 0 0, .slice none 0 0]] W fun e w' => e = .returned (.bool true) ∧ Below W.heap.size W w')
          have y0 : w7.cell? ⟨gB, 0, none⟩ = some (.int .i64 0) := hRB7.cell 0
          have y1 : w7.cell? ⟨gB, 1, none⟩ = some (.int .i64 0) := hRB7.cell 1
          have x0 : w7.cell? ⟨f3, 0, none⟩ = some (.int .i64 0) := hf3.cell 0
          have x1 : w7.cell? ⟨f3, 1, none⟩ = some (.int .i64 0) := hf3.cell 1
          obtain ⟨u0, u1, u2, u3, u4⟩ := row5 hr3
          clear hwg hBg hsg e1 e2 hBB hB7 hR7 hRA7 hRB7 hP7 hr3 hf3 hP3 HK0 HK1 HK2 HK3 HR3 HP3 hcvf hcv
          go_wp2_with fail
          refine (HSA.out _ (Below.refl _ _)).mono ?_; rintro e w8 ⟨rfl, hB8⟩
          obtain ⟨⟨u0', u1', u2', u3', u4'⟩, ⟨z0', z1', z2', z3', z4'⟩⟩ := HSR.out _ hB8
          have HX := hide (HSB.out _ hB8)
          have HB8 := hide (HB7.out.trans (hB8.mono HB7.out.size))
          clear u0 u1 u2 u3 u4 z0 z1 z2 z3 z4 y0 y1 x0 x1 hB8 HSA HSB HSR HB7
          go_wp2_with fail
          refine HX.out.mono ?_; rintro e w9 ⟨rfl, hB9⟩
          have HB9 := hide (HB8.out.trans (hB9.mono HB8.out.size))
          have HY := hide (HE.out _ HB9.out)
          clear hB9 HX HB8 u0' u1' u2' u3' u4' z0' z1' z2' z3' z4'
          go_wp2_with fail
          refine HY.out.mono ?_; rintro e w10 ⟨rfl, hB10⟩
          have HB10 := hide (HB9.out.trans (hB10.mono HB9.out.size))
          go_wp2_with fail
          go_ret
          exact ⟨rfl, HB10.out⟩
        · skip
          go_simp
          obtain ⟨v3, hv⟩ : ∃ W, W = v2.alloc (.cells #[.int .i64 0, .int .i64 0] 30) := ⟨_, rfl⟩
          obtain ⟨gB, hg⟩ : ∃ g, g = v2.heap.size := ⟨_, rfl⟩
          rw [← hv, ← hg]
          have hRB : Row v3 gB 30 [.int .i64 0, .int .i64 0] := by rw [hv, hg]; exact Row.new v2 _ _
          have hb3 : Below v2.heap.size v2 v3 := by rw [hv]; exact (Below.refl _ _).alloc (Nat.le_refl _) _
          have hLB : w3.heap.size ≤ gB := by rw [hg]; exact hB.size
          have hB := hB.trans (hb3.mono hB.size)
          have hRA := hRA.below hb3
          have hRS := hRS.below hb3
          clear hv hg hb3
          refine hK.out _ _ trivial (fun hH => ?_)
          clear hK K
          refine oneH (i := 12) rfl (by kernel_rfl) (fun K hK => ?_)
          have hqA := hRA.lt
          have hqB := hRB.lt
          go_simp
          go_at_call 8
          refine (HP2.out v3).mono ?_; rintro e v4 ⟨bb, qq, bb', qq', rfl, hPP, hb4⟩
          have hB := hB.trans (hb4.mono hB.size)
          have hRA := hRA.below hb4
          have hRB := hRB.below hb4
          have hRS := hRS.below hb4
          obtain ⟨lp, hlp⟩ : ∃ l, l = v3.heap.size := ⟨_, rfl⟩
          rw [← hlp] at hPP
          obtain ⟨vp, hvp⟩ : ∃ W, W = v4 := ⟨_, rfl⟩
          rw [← hvp] at hPP
          have hKP : ∀ j, lp ≤ j → j < vp.heap.size → v4.heap[j]? = vp.heap[j]? := fun j _ _ => by rw [hvp]
          have hsp : vp.heap.size ≤ v4.heap.size := by rw [hvp]; exact Nat.le_refl _
          have hAP : gA < lp ∨ vp.heap.size ≤ gA := .inl (by rw [hlp]; exact hqA)
          have hBP : gB < lp ∨ vp.heap.size ≤ gB := .inl (by rw [hlp]; exact hqB)
          clear hb4 hlp hvp hqA hqB
          refine hK.out _ _ trivial (fun hH => ?_)
          clear hK K
          refine takeH (i := 13) (v := ?_) rfl (by kernel_rfl) (by kernel_rfl) (by kernel_rfl) (fun _ _ _ h => h) (Or.inl ⟨by rfl, ?_⟩) hH ?_
          rotate_left
          · (intro w hSw; (try dsimp only at hSw); go_simp; try with_reducible rfl)
          simp only [Act.put, List.setIfInBounds_toArray, List.set_cons_zero, List.set_cons_succ]
          refine takeH (i := 14) (v := ?_) rfl (by kernel_rfl) (by kernel_rfl) (by kernel_rfl) (fun _ _ _ h => h) (Or.inl ⟨by rfl, ?_⟩) hH ?_
          rotate_left
          · (intro w hSw; (try dsimp only at hSw); go_simp; try with_reducible rfl)
          simp only [Act.put, List.setIfInBounds_toArray, List.set_cons_zero, List.set_cons_succ]
          refine takeH (i := 15) (v := ?_) rfl (by kernel_rfl) (by kernel_rfl) (by kernel_rfl) (fun _ _ _ h => h) (Or.inl ⟨by rfl, ?_⟩) hH ?_
          rotate_left
          · (intro w hSw; (try dsimp only at hSw); go_simp; try with_reducible rfl)
          simp only [Act.put, List.setIfInBounds_toArray, List.set_cons_zero, List.set_cons_succ]
          refine oneH (i := 18) rfl (by kernel_rfl) (fun K hK => ?_)
          obtain ⟨v5, hv⟩ : ∃ W, W = set5 v4 gA (.int .i64 (kD r2)) (.int .i64 (nD r2)) (.string (sD r2)) (.slice bb (iD r2).length qq) (.slice bb' (mD r2).length qq') := ⟨_, rfl⟩
          obtain ⟨t0, t1, t2, t3, t4⟩ := row5 hRA
          have q0 := hRA.frozen 0
          have q1 := hRA.frozen 1
          have q2 := hRA.frozen 2
          have q3 := hRA.frozen 3
          have q4 := hRA.frozen 4
          have hRA2 : Row v5 gA 27 [.int .i64 (kD r2), .int .i64 (nD r2), .string (sD r2), .slice bb (iD r2).length qq, .slice bb' (mD r2).length qq'] := by rw [hv]; exact row_set5 hRA _ _ _ _ _
          have hRB : Row v5 gB 30 [.int .i64 0, .int .i64 0] := by rw [hv]; exact row_far5 hRB (Ne.symm (Row.ne_ hRA hRB (by decide))) _ _ _ _ _
          have hB : Below w3.heap.size w3 v5 := by rw [hv]; exact below_set5 hB hLA _ _ _ _ _
          have hKP : ∀ j, lp ≤ j → j < vp.heap.size → v5.heap[j]? = vp.heap[j]? := fun j j1 j2 => by rw [hv, set5_heap _ _ _ _ _ _ _ (by omega)]; exact hKP j j1 j2
          have hsp : vp.heap.size ≤ v5.heap.size := by rw [hv, set5_size]; exact hsp
          unfold set5 at hv
          go_simp
          rw [← hv]
          clear hv t0 t1 t2 t3 t4 q0 q1 q2 q3 q4 hRA hRS
          have hRA := hRA2
          clear hRA2
          refine hK.out _ _ trivial (fun hH => ?_)
          clear hK K
          have hne : gA ≠ gB := Row.ne_ hRA hRB (by decide)
          obtain ⟨wf, hwf⟩ : ∃ W, W = (v5.setCell ⟨gB, 0, none⟩ (.int .i64 0)).setCell ⟨gB, 1, none⟩ (.int .i64 0) := ⟨_, rfl⟩
          obtain ⟨k0, k1, k2, k3⟩ := strings_fin hRA hRB hne hB hLB hPP hKP hBP hsp hwf
          have t0 : v5.cell? ⟨gB, 0, none⟩ = some (.int .i64 0) := hRB.cell 0
          have t1 : v5.cell? ⟨gB, 1, none⟩ = some (.int .i64 0) := hRB.cell 1
          have q0 := hRB.frozen 0
          have q1 := hRB.frozen 1
          clear hRA hRB hB hPP hKP hAP hBP hsp
          refine oneH (i := 19) rfl (by kernel_rfl) (fun K hK => ?_)
          go_simp
          rw [← hwf]
          refine hK.out _ _ trivial (fun hH => ?_)
          clear hK K hwf t0 t1 q0 q1
          refine wpAnyH_done (by kernel_rfl) ?_ _
          have HK0 := hide k0; have HK1 := hide k1; have HK2 := hide k2; have HK3 := hide k3
          clear k0 k1 k2 k3 hH hs1 hs2 e1 e2 e4 l1 l2 hSS s1 s2 HU hp1 hne hLA hLB
          have hcvf := hcv wf
          go_upto_region 6 with fail
          obtain ⟨wg, hwg⟩ : ∃ W, W = wf.alloc (.cells #[.int .u8 (c.toNat : Int)] 5) := ⟨_, rfl⟩
          have hBg : Below wf.heap.size wf wg := by rw [hwg]; exact (Below.refl _ _).alloc (Nat.le_refl _) _
          have hsg : wf.heap.size + 1 = wg.heap.size := by rw [hwg]; simp
          rw [← hwg, hsg]
          obtain ⟨w7, g7, e1, e2, hB7, z0, z1, z2, z3, z4, hR7⟩ := boxD wg 4 0 T (.slice none 0 0) (.slice none 0 0)
          rw [e1, e2]
          have hBB := hBg.trans (hB7.mono hBg.size)
          have HB7 := hide (HB3.out.trans ((HK2.out.trans (hBB.mono HK2.out.size)).mono HB3.out.size))
          have hRA7 := HK0.out.below hBB
          have hRB7 := HK1.out.below hBB
          have hP7 := HK3.out.turn (Same.of_below hBB) hBB.size
          have hr3 := (HR3.out.1.below HK2.out).below hBB
          have hf3 := (HR3.out.2.below HK2.out).below hBB
          have hP3 := HP3.out.turn (Same.of_below (HK2.out.trans (hBB.mono HK2.out.size))) (HK2.out.trans (hBB.mono HK2.out.size)).size
          have HSR := hide fun W (h : Below w7.heap.size w7 W) => And.intro (row5 (hRA7.below h)) (row5 (hR7.below h))
          have HSA := hide fun W (h : Below w7.heap.size w7 W) => (strings_same HTT.out (hP3.turn (Same.of_below h) h.size) HM1.out s1b : Calls Tryd.prog 9 #[.agg #[.int .i64 (kD r1), .int .i64 (nD r1), .string (sD r1), .slice b2 (iD r1).length q2, .slice b2' (mD r1).length q2'], .agg #[.int .i64 4, .int .i64 0, .string T, .slice none 0 0, .slice none 0 0]] W fun e w' => e = .returned (.bool true) ∧ Below W.heap.size W w')
          have HSB := hide fun W (h : Below w7.heap.size w7 W) => (strings_same HTT.out (hP7.turn (Same.of_below h) h.size) HM2.out s2b : Calls Tryd.prog 9 #[.agg #[.int .i64 (kD r2), .int .i64 (nD r2), .string (sD r2), .slice bb (iD r2).length qq, .slice bb' (mD r2).length qq'], .agg #[.int .i64 4, .int .i64 0, .string T, .slice none 0 0, .slice none 0 0]] W fun e w' => e = .returned (.bool true) ∧ Below W.heap.size W w')
          have y0 : w7.cell? ⟨gB, 0, none⟩ = some (.int .i64 0) := hRB7.cell 0
          have y1 : w7.cell? ⟨gB, 1, none⟩ = some (.int .i64 0) := hRB7.cell 1
          have x0 : w7.cell? ⟨f3, 0, none⟩ = some (.int .i64 0) := hf3.cell 0
          have x1 : w7.cell? ⟨f3, 1, none⟩ = some (.int .i64 0) := hf3.cell 1
          obtain ⟨u0, u1, u2, u3, u4⟩ := row5 hr3
          clear hwg hBg hsg e1 e2 hBB hB7 hR7 hRA7 hRB7 hP7 hr3 hf3 hP3 HK0 HK1 HK2 HK3 HR3 HP3 hcvf hcv
          go_wp2_with fail
          refine (HSA.out _ (Below.refl _ _)).mono ?_; rintro e w8 ⟨rfl, hB8⟩
          obtain ⟨⟨u0', u1', u2', u3', u4'⟩, ⟨z0', z1', z2', z3', z4'⟩⟩ := HSR.out _ hB8
          have HX := hide (HSB.out _ hB8)
          have HB8 := hide (HB7.out.trans (hB8.mono HB7.out.size))
          clear u0 u1 u2 u3 u4 z0 z1 z2 z3 z4 y0 y1 x0 x1 hB8 HSA HSB HSR HB7
          go_wp2_with fail
          refine HX.out.mono ?_; rintro e w9 ⟨rfl, hB9⟩
          have HB9 := hide (HB8.out.trans (hB9.mono HB8.out.size))
          have HY := hide (HE.out _ HB9.out)
          clear hB9 HX HB8 u0' u1' u2' u3' u4' z0' z1' z2' z3' z4'
          go_wp2_with fail
          refine HY.out.mono ?_; rintro e w10 ⟨rfl, hB10⟩
          have HB10 := hide (HB9.out.trans (hB10.mono HB9.out.size))
          go_wp2_with fail
          go_ret
          exact ⟨rfl, HB10.out⟩
      · skip
        go_simp
        obtain ⟨v3, hv⟩ : ∃ W, W = v2.alloc (.cells #[.int .i64 0, .int .i64 0] 30) := ⟨_, rfl⟩
        obtain ⟨gB, hg⟩ : ∃ g, g = v2.heap.size := ⟨_, rfl⟩
        rw [← hv, ← hg]
        have hRB : Row v3 gB 30 [.int .i64 0, .int .i64 0] := by rw [hv, hg]; exact Row.new v2 _ _
        have hb3 : Below v2.heap.size v2 v3 := by rw [hv]; exact (Below.refl _ _).alloc (Nat.le_refl _) _
        have hLB : w3.heap.size ≤ gB := by rw [hg]; exact hB.size
        have hB := hB.trans (hb3.mono hB.size)
        have hRA := hRA.below hb3
        have hRS := hRS.below hb3
        clear hv hg hb3
        refine hK.out _ _ trivial (fun hH => ?_)
        clear hK K
        refine oneH (i := 9) rfl (by kernel_rfl) (fun K hK => ?_)
        have hcv2 := RowY.str hRS 2 2 (Nat.le_refl _)
        rw [show [hexN hi, hexU lo].take 2 = [hexN hi, hexU lo] from rfl] at hcv2
        go_simp
        clear hcv2
        refine hK.out _ _ trivial (fun hH => ?_)
        clear hK K
        refine takeH (i := 10) (v := ?_) rfl (by kernel_rfl) (by kernel_rfl) (by kernel_rfl) (fun _ _ _ h => h) (Or.inl ⟨by rfl, ?_⟩) hH ?_
        rotate_left
        · (intro w hSw; (try dsimp only at hSw); go_simp; try with_reducible rfl)
        simp only [Act.put, List.setIfInBounds_toArray, List.set_cons_zero, List.set_cons_succ]
        refine takeH (i := 11) (v := ?_) rfl (by kernel_rfl) (by kernel_rfl) (by kernel_rfl) (fun _ _ _ h => h) (Or.inl ⟨by rfl, ?_⟩) hH ?_
        rotate_left
        · (intro w hSw; (try dsimp only at hSw); go_simp; try with_reducible rfl)
        simp only [Act.put, List.setIfInBounds_toArray, List.set_cons_zero, List.set_cons_succ]
        refine oneH (i := 12) rfl (by kernel_rfl) (fun K hK => ?_)
        have hqA := hRA.lt
        have hqB := hRB.lt
        go_simp
        go_at_call 8
        refine (HP2.out v3).mono ?_; rintro e v4 ⟨bb, qq, bb', qq', rfl, hPP, hb4⟩
        have hB := hB.trans (hb4.mono hB.size)
        have hRA := hRA.below hb4
        have hRB := hRB.below hb4
        have hRS := hRS.below hb4
        obtain ⟨lp, hlp⟩ : ∃ l, l = v3.heap.size := ⟨_, rfl⟩
        rw [← hlp] at hPP
        obtain ⟨vp, hvp⟩ : ∃ W, W = v4 := ⟨_, rfl⟩
        rw [← hvp] at hPP
        have hKP : ∀ j, lp ≤ j → j < vp.heap.size → v4.heap[j]? = vp.heap[j]? := fun j _ _ => by rw [hvp]
        have hsp : vp.heap.size ≤ v4.heap.size := by rw [hvp]; exact Nat.le_refl _
        have hAP : gA < lp ∨ vp.heap.size ≤ gA := .inl (by rw [hlp]; exact hqA)
        have hBP : gB < lp ∨ vp.heap.size ≤ gB := .inl (by rw [hlp]; exact hqB)
        clear hb4 hlp hvp hqA hqB
        refine hK.out _ _ trivial (fun hH => ?_)
        clear hK K
        refine takeH (i := 13) (v := ?_) rfl (by kernel_rfl) (by kernel_rfl) (by kernel_rfl) (fun _ _ _ h => h) (Or.inl ⟨by rfl, ?_⟩) hH ?_
        rotate_left
        · (intro w hSw; (try dsimp only at hSw); go_simp; try with_reducible rfl)
        simp only [Act.put, List.setIfInBounds_toArray, List.set_cons_zero, List.set_cons_succ]
        refine takeH (i := 14) (v := ?_) rfl (by kernel_rfl) (by kernel_rfl) (by kernel_rfl) (fun _ _ _ h => h) (Or.inl ⟨by rfl, ?_⟩) hH ?_
        rotate_left
        · (intro w hSw; (try dsimp only at hSw); go_simp; try with_reducible rfl)
        simp only [Act.put, List.setIfInBounds_toArray, List.set_cons_zero, List.set_cons_succ]
        refine takeH (i := 15) (v := ?_) rfl (by kernel_rfl) (by kernel_rfl) (by kernel_rfl) (fun _ _ _ h => h) (Or.inl ⟨by rfl, ?_⟩) hH ?_
        rotate_left
        · (intro w hSw; (try dsimp only at hSw); go_simp; try with_reducible rfl)
        simp only [Act.put, List.setIfInBounds_toArray, List.set_cons_zero, List.set_cons_succ]
        refine oneH (i := 18) rfl (by kernel_rfl) (fun K hK => ?_)
        obtain ⟨v5, hv⟩ : ∃ W, W = set5 v4 gA (.int .i64 (kD r2)) (.int .i64 (nD r2)) (.string (sD r2)) (.slice bb (iD r2).length qq) (.slice bb' (mD r2).length qq') := ⟨_, rfl⟩
        obtain ⟨t0, t1, t2, t3, t4⟩ := row5 hRA
        have q0 := hRA.frozen 0
        have q1 := hRA.frozen 1
        have q2 := hRA.frozen 2
        have q3 := hRA.frozen 3
        have q4 := hRA.frozen 4
        have hRA2 : Row v5 gA 27 [.int .i64 (kD r2), .int .i64 (nD r2), .string (sD r2), .slice bb (iD r2).length qq, .slice bb' (mD r2).length qq'] := by rw [hv]; exact row_set5 hRA _ _ _ _ _
        have hRB : Row v5 gB 30 [.int .i64 0, .int .i64 0] := by rw [hv]; exact row_far5 hRB (Ne.symm (Row.ne_ hRA hRB (by decide))) _ _ _ _ _
        have hB : Below w3.heap.size w3 v5 := by rw [hv]; exact below_set5 hB hLA _ _ _ _ _
        have hKP : ∀ j, lp ≤ j → j < vp.heap.size → v5.heap[j]? = vp.heap[j]? := fun j j1 j2 => by rw [hv, set5_heap _ _ _ _ _ _ _ (by omega)]; exact hKP j j1 j2
        have hsp : vp.heap.size ≤ v5.heap.size := by rw [hv, set5_size]; exact hsp
        unfold set5 at hv
        go_simp
        rw [← hv]
        clear hv t0 t1 t2 t3 t4 q0 q1 q2 q3 q4 hRA hRS
        have hRA := hRA2
        clear hRA2
        refine hK.out _ _ trivial (fun hH => ?_)
        clear hK K
        have hne : gA ≠ gB := Row.ne_ hRA hRB (by decide)
        obtain ⟨wf, hwf⟩ : ∃ W, W = (v5.setCell ⟨gB, 0, none⟩ (.int .i64 0)).setCell ⟨gB, 1, none⟩ (.int .i64 0) := ⟨_, rfl⟩
        obtain ⟨k0, k1, k2, k3⟩ := strings_fin hRA hRB hne hB hLB hPP hKP hBP hsp hwf
        have t0 : v5.cell? ⟨gB, 0, none⟩ = some (.int .i64 0) := hRB.cell 0
        have t1 : v5.cell? ⟨gB, 1, none⟩ = some (.int .i64 0) := hRB.cell 1
        have q0 := hRB.frozen 0
        have q1 := hRB.frozen 1
        clear hRA hRB hB hPP hKP hAP hBP hsp
        refine oneH (i := 19) rfl (by kernel_rfl) (fun K hK => ?_)
        go_simp
        rw [← hwf]
        refine hK.out _ _ trivial (fun hH => ?_)
        clear hK K hwf t0 t1 q0 q1
        refine wpAnyH_done (by kernel_rfl) ?_ _
        have HK0 := hide k0; have HK1 := hide k1; have HK2 := hide k2; have HK3 := hide k3
        clear k0 k1 k2 k3 hH hs1 hs2 e1 e2 e4 l1 l2 hSS s1 s2 HU hp1 hne hLA hLB
        have hcvf := hcv wf
        go_upto_region 6 with fail
        obtain ⟨wg, hwg⟩ : ∃ W, W = wf.alloc (.cells #[.int .u8 (c.toNat : Int)] 5) := ⟨_, rfl⟩
        have hBg : Below wf.heap.size wf wg := by rw [hwg]; exact (Below.refl _ _).alloc (Nat.le_refl _) _
        have hsg : wf.heap.size + 1 = wg.heap.size := by rw [hwg]; simp
        rw [← hwg, hsg]
        obtain ⟨w7, g7, e1, e2, hB7, z0, z1, z2, z3, z4, hR7⟩ := boxD wg 4 0 T (.slice none 0 0) (.slice none 0 0)
        rw [e1, e2]
        have hBB := hBg.trans (hB7.mono hBg.size)
        have HB7 := hide (HB3.out.trans ((HK2.out.trans (hBB.mono HK2.out.size)).mono HB3.out.size))
        have hRA7 := HK0.out.below hBB
        have hRB7 := HK1.out.below hBB
        have hP7 := HK3.out.turn (Same.of_below hBB) hBB.size
        have hr3 := (HR3.out.1.below HK2.out).below hBB
        have hf3 := (HR3.out.2.below HK2.out).below hBB
        have hP3 := HP3.out.turn (Same.of_below (HK2.out.trans (hBB.mono HK2.out.size))) (HK2.out.trans (hBB.mono HK2.out.size)).size
        have HSR := hide fun W (h : Below w7.heap.size w7 W) => And.intro (row5 (hRA7.below h)) (row5 (hR7.below h))
        have HSA := hide fun W (h : Below w7.heap.size w7 W) => (strings_same HTT.out (hP3.turn (Same.of_below h) h.size) HM1.out s1b : Calls Tryd.prog 9 #[.agg #[.int .i64 (kD r1), .int .i64 (nD r1), .string (sD r1), .slice b2 (iD r1).length q2, .slice b2' (mD r1).length q2'], .agg #[.int .i64 4, .int .i64 0, .string T, .slice none 0 0, .slice none 0 0]] W fun e w' => e = .returned (.bool true) ∧ Below W.heap.size W w')
        have HSB := hide fun W (h : Below w7.heap.size w7 W) => (strings_same HTT.out (hP7.turn (Same.of_below h) h.size) HM2.out s2b : Calls Tryd.prog 9 #[.agg #[.int .i64 (kD r2), .int .i64 (nD r2), .string (sD r2), .slice bb (iD r2).length qq, .slice bb' (mD r2).length qq'], .agg #[.int .i64 4, .int .i64 0, .string T, .slice none 0 0, .slice none 0 0]] W fun e w' => e = .returned (.bool true) ∧ Below W.heap.size W w')
        have y0 : w7.cell? ⟨gB, 0, none⟩ = some (.int .i64 0) := hRB7.cell 0
        have y1 : w7.cell? ⟨gB, 1, none⟩ = some (.int .i64 0) := hRB7.cell 1
        have x0 : w7.cell? ⟨f3, 0, none⟩ = some (.int .i64 0) := hf3.cell 0
        have x1 : w7.cell? ⟨f3, 1, none⟩ = some (.int .i64 0) := hf3.cell 1
        obtain ⟨u0, u1, u2, u3, u4⟩ := row5 hr3
        clear hwg hBg hsg e1 e2 hBB hB7 hR7 hRA7 hRB7 hP7 hr3 hf3 hP3 HK0 HK1 HK2 HK3 HR3 HP3 hcvf hcv
        go_wp2_with fail
        refine (HSA.out _ (Below.refl _ _)).mono ?_; rintro e w8 ⟨rfl, hB8⟩
        obtain ⟨⟨u0', u1', u2', u3', u4'⟩, ⟨z0', z1', z2', z3', z4'⟩⟩ := HSR.out _ hB8
        have HX := hide (HSB.out _ hB8)
        have HB8 := hide (HB7.out.trans (hB8.mono HB7.out.size))
        clear u0 u1 u2 u3 u4 z0 z1 z2 z3 z4 y0 y1 x0 x1 hB8 HSA HSB HSR HB7
        go_wp2_with fail
        refine HX.out.mono ?_; rintro e w9 ⟨rfl, hB9⟩
        have HB9 := hide (HB8.out.trans (hB9.mono HB8.out.size))
        have HY := hide (HE.out _ HB9.out)
        clear hB9 HX HB8 u0' u1' u2' u3' u4' z0' z1' z2' z3' z4'
        go_wp2_with fail
        refine HY.out.mono ?_; rintro e w10 ⟨rfl, hB10⟩
        have HB10 := hide (HB9.out.trans (hB10.mono HB9.out.size))
        go_wp2_with fail
        go_ret
        exact ⟨rfl, HB10.out⟩
    · skip
      go_simp
      obtain ⟨v2, hv⟩ : ∃ W, W = v1.alloc (.cells #[.int .i64 0, .int .i64 0] 30) := ⟨_, rfl⟩
      obtain ⟨gB, hg⟩ : ∃ g, g = v1.heap.size := ⟨_, rfl⟩
      rw [← hv, ← hg]
      have hRB : Row v2 gB 30 [.int .i64 0, .int .i64 0] := by rw [hv, hg]; exact Row.new v1 _ _
      have hb2 : Below v1.heap.size v1 v2 := by rw [hv]; exact (Below.refl _ _).alloc (Nat.le_refl _) _
      have hLB : w3.heap.size ≤ gB := by rw [hg]; exact hB.size
      have hB := hB.trans (hb2.mono hB.size)
      have hRS := hRS.below hb2
      clear hv hg hb2
      refine hK.out _ _ trivial (fun hH => ?_)
      clear hK K
      refine twoH (i := 9) (j := 16) rfl rfl (by kernel_rfl) (fun K hK => ?_) (fun K hK => ?_)
      · skip
        have hcv2 := RowY.str hRS 2 2 (Nat.le_refl _)
        rw [show [hexN hi, hexU lo].take 2 = [hexN hi, hexU lo] from rfl] at hcv2
        go_simp
        clear hcv2
        refine hK.out _ _ trivial (fun hH => ?_)
        clear hK K
        refine takeH (i := 10) (v := ?_) rfl (by kernel_rfl) (by kernel_rfl) (by kernel_rfl) (fun _ _ _ h => h) (Or.inl ⟨by rfl, ?_⟩) hH ?_
        rotate_left
        · (intro w hSw; (try dsimp only at hSw); go_simp; try with_reducible rfl)
        simp only [Act.put, List.setIfInBounds_toArray, List.set_cons_zero, List.set_cons_succ]
        refine takeH (i := 11) (v := ?_) rfl (by kernel_rfl) (by kernel_rfl) (by kernel_rfl) (fun _ _ _ h => h) (Or.inl ⟨by rfl, ?_⟩) hH ?_
        rotate_left
        · (intro w hSw; (try dsimp only at hSw); go_simp; try with_reducible rfl)
        simp only [Act.put, List.setIfInBounds_toArray, List.set_cons_zero, List.set_cons_succ]
        refine twoH (i := 12) (j := 16) rfl rfl (by kernel_rfl) (fun K hK => ?_) (fun K hK => ?_)
        · skip
          have hqB := hRB.lt
          go_simp
          go_at_call 8
          refine (HP2.out v2).mono ?_; rintro e v3 ⟨bb, qq, bb', qq', rfl, hPP, hb3⟩
          have hB := hB.trans (hb3.mono hB.size)
          have hRB := hRB.below hb3
          have hRS := hRS.below hb3
          obtain ⟨lp, hlp⟩ : ∃ l, l = v2.heap.size := ⟨_, rfl⟩
          rw [← hlp] at hPP
          obtain ⟨vp, hvp⟩ : ∃ W, W = v3 := ⟨_, rfl⟩
          rw [← hvp] at hPP
          have hKP : ∀ j, lp ≤ j → j < vp.heap.size → v3.heap[j]? = vp.heap[j]? := fun j _ _ => by rw [hvp]
          have hsp : vp.heap.size ≤ v3.heap.size := by rw [hvp]; exact Nat.le_refl _
          have hBP : gB < lp ∨ vp.heap.size ≤ gB := .inl (by rw [hlp]; exact hqB)
          clear hb3 hlp hvp hqB
          refine hK.out _ _ trivial (fun hH => ?_)
          clear hK K
          refine takeH (i := 13) (v := ?_) rfl (by kernel_rfl) (by kernel_rfl) (by kernel_rfl) (fun _ _ _ h => h) (Or.inl ⟨by rfl, ?_⟩) hH ?_
          rotate_left
          · (intro w hSw; (try dsimp only at hSw); go_simp; try with_reducible rfl)
          simp only [Act.put, List.setIfInBounds_toArray, List.set_cons_zero, List.set_cons_succ]
          refine takeH (i := 14) (v := ?_) rfl (by kernel_rfl) (by kernel_rfl) (by kernel_rfl) (fun _ _ _ h => h) (Or.inl ⟨by rfl, ?_⟩) hH ?_
          rotate_left
          · (intro w hSw; (try dsimp only at hSw); go_simp; try with_reducible rfl)
          simp only [Act.put, List.setIfInBounds_toArray, List.set_cons_zero, List.set_cons_succ]
          refine takeH (i := 15) (v := ?_) rfl (by kernel_rfl) (by kernel_rfl) (by kernel_rfl) (fun _ _ _ h => h) (Or.inl ⟨by rfl, ?_⟩) hH ?_
          rotate_left
          · (intro w hSw; (try dsimp only at hSw); go_simp; try with_reducible rfl)
          simp only [Act.put, List.setIfInBounds_toArray, List.set_cons_zero, List.set_cons_succ]
          refine oneH (i := 16) rfl (by kernel_rfl) (fun K hK => ?_)
          go_simp
          obtain ⟨v4, hv⟩ : ∃ W, W = v3.alloc (.cells #[.int .i64 0, .int .i64 0, .string ⟨#[]⟩, .slice none 0 0, .slice none 0 0] 27) := ⟨_, rfl⟩
          obtain ⟨gA, hg⟩ : ∃ g, g = v3.heap.size := ⟨_, rfl⟩
          rw [← hv, ← hg]
          have hRA : Row v4 gA 27 [.int .i64 0, .int .i64 0, .string ⟨#[]⟩, .slice none 0 0, .slice none 0 0] := by rw [hv, hg]; exact Row.new v3 _ _
          have hb4 : Below v3.heap.size v3 v4 := by rw [hv]; exact (Below.refl _ _).alloc (Nat.le_refl _) _
          have hLA : w3.heap.size ≤ gA := by rw [hg]; exact hB.size
          have hAP : gA < lp ∨ vp.heap.size ≤ gA := .inr (by rw [hg]; exact hsp)
          have hB := hB.trans (hb4.mono hB.size)
          have hRB := hRB.below hb4
          have hRS := hRS.below hb4
          have hKP := fun j (j1 : lp ≤ j) (j2 : j < vp.heap.size) => (hb4.block j (Nat.lt_of_lt_of_le j2 hsp)).trans (hKP j j1 j2)
          have hsp := Nat.le_trans hsp hb4.size
          clear hv hg hb4
          refine hK.out _ _ trivial (fun hH => ?_)
          clear hK K
          refine oneH (i := 18) rfl (by kernel_rfl) (fun K hK => ?_)
          obtain ⟨v5, hv⟩ : ∃ W, W = set5 v4 gA (.int .i64 (kD r2)) (.int .i64 (nD r2)) (.string (sD r2)) (.slice bb (iD r2).length qq) (.slice bb' (mD r2).length qq') := ⟨_, rfl⟩
          obtain ⟨t0, t1, t2, t3, t4⟩ := row5 hRA
          have q0 := hRA.frozen 0
          have q1 := hRA.frozen 1
          have q2 := hRA.frozen 2
          have q3 := hRA.frozen 3
          have q4 := hRA.frozen 4
          have hRA2 : Row v5 gA 27 [.int .i64 (kD r2), .int .i64 (nD r2), .string (sD r2), .slice bb (iD r2).length qq, .slice bb' (mD r2).length qq'] := by rw [hv]; exact row_set5 hRA _ _ _ _ _
          have hRB : Row v5 gB 30 [.int .i64 0, .int .i64 0] := by rw [hv]; exact row_far5 hRB (Ne.symm (Row.ne_ hRA hRB (by decide))) _ _ _ _ _
          have hB : Below w3.heap.size w3 v5 := by rw [hv]; exact below_set5 hB hLA _ _ _ _ _
          have hKP : ∀ j, lp ≤ j → j < vp.heap.size → v5.heap[j]? = vp.heap[j]? := fun j j1 j2 => by rw [hv, set5_heap _ _ _ _ _ _ _ (by omega)]; exact hKP j j1 j2
          have hsp : vp.heap.size ≤ v5.heap.size := by rw [hv, set5_size]; exact hsp
          unfold set5 at hv
          go_simp
          rw [← hv]
          clear hv t0 t1 t2 t3 t4 q0 q1 q2 q3 q4 hRA hRS
          have hRA := hRA2
          clear hRA2
          refine hK.out _ _ trivial (fun hH => ?_)
          clear hK K
          have hne : gA ≠ gB := Row.ne_ hRA hRB (by decide)
          obtain ⟨wf, hwf⟩ : ∃ W, W = (v5.setCell ⟨gB, 0, none⟩ (.int .i64 0)).setCell ⟨gB, 1, none⟩ (.int .i64 0) := ⟨_, rfl⟩
          obtain ⟨k0, k1, k2, k3⟩ := strings_fin hRA hRB hne hB hLB hPP hKP hBP hsp hwf
          have t0 : v5.cell? ⟨gB, 0, none⟩ = some (.int .i64 0) := hRB.cell 0
          have t1 : v5.cell? ⟨gB, 1, none⟩ = some (.int .i64 0) := hRB.cell 1
          have q0 := hRB.frozen 0
          have q1 := hRB.frozen 1
          clear hRA hRB hB hPP hKP hAP hBP hsp
          refine oneH (i := 19) rfl (by kernel_rfl) (fun K hK => ?_)
          go_simp
          rw [← hwf]
          refine hK.out _ _ trivial (fun hH => ?_)
          clear hK K hwf t0 t1 q0 q1
          refine wpAnyH_done (by kernel_rfl) ?_ _
          have HK0 := hide k0; have HK1 := hide k1; have HK2 := hide k2; have HK3 := hide k3
          clear k0 k1 k2 k3 hH hs1 hs2 e1 e2 e4 l1 l2 hSS s1 s2 HU hp1 hne hLA hLB
          have hcvf := hcv wf
          go_upto_region 6 with fail
          obtain ⟨wg, hwg⟩ : ∃ W, W = wf.alloc (.cells #[.int .u8 (c.toNat : Int)] 5) := ⟨_, rfl⟩
          have hBg : Below wf.heap.size wf wg := by rw [hwg]; exact (Below.refl _ _).alloc (Nat.le_refl _) _
          have hsg : wf.heap.size + 1 = wg.heap.size := by rw [hwg]; simp
          rw [← hwg, hsg]
          obtain ⟨w7, g7, e1, e2, hB7, z0, z1, z2, z3, z4, hR7⟩ := boxD wg 4 0 T (.slice none 0 0) (.slice none 0 0)
          rw [e1, e2]
          have hBB := hBg.trans (hB7.mono hBg.size)
          have HB7 := hide (HB3.out.trans ((HK2.out.trans (hBB.mono HK2.out.size)).mono HB3.out.size))
          have hRA7 := HK0.out.below hBB
          have hRB7 := HK1.out.below hBB
          have hP7 := HK3.out.turn (Same.of_below hBB) hBB.size
          have hr3 := (HR3.out.1.below HK2.out).below hBB
          have hf3 := (HR3.out.2.below HK2.out).below hBB
          have hP3 := HP3.out.turn (Same.of_below (HK2.out.trans (hBB.mono HK2.out.size))) (HK2.out.trans (hBB.mono HK2.out.size)).size
          have HSR := hide fun W (h : Below w7.heap.size w7 W) => And.intro (row5 (hRA7.below h)) (row5 (hR7.below h))
          have HSA := hide fun W (h : Below w7.heap.size w7 W) => (strings_same HTT.out (hP3.turn (Same.of_below h) h.size) HM1.out s1b : Calls Tryd.prog 9 #[.agg #[.int .i64 (kD r1), .int .i64 (nD r1), .string (sD r1), .slice b2 (iD r1).length q2, .slice b2' (mD r1).length q2'], .agg #[.int .i64 4, .int .i64 0, .string T, .slice none 0 0, .slice none 0 0]] W fun e w' => e = .returned (.bool true) ∧ Below W.heap.size W w')
          have HSB := hide fun W (h : Below w7.heap.size w7 W) => (strings_same HTT.out (hP7.turn (Same.of_below h) h.size) HM2.out s2b : Calls Tryd.prog 9 #[.agg #[.int .i64 (kD r2), .int .i64 (nD r2), .string (sD r2), .slice bb (iD r2).length qq, .slice bb' (mD r2).length qq'], .agg #[.int .i64 4, .int .i64 0, .string T, .slice none 0 0, .slice none 0 0]] W fun e w' => e = .returned (.bool true) ∧ Below W.heap.size W w')
          have y0 : w7.cell? ⟨gB, 0, none⟩ = some (.int .i64 0) := hRB7.cell 0
          have y1 : w7.cell? ⟨gB, 1, none⟩ = some (.int .i64 0) := hRB7.cell 1
          have x0 : w7.cell? ⟨f3, 0, none⟩ = some (.int .i64 0) := hf3.cell 0
          have x1 : w7.cell? ⟨f3, 1, none⟩ = some (.int .i64 0) := hf3.cell 1
          obtain ⟨u0, u1, u2, u3, u4⟩ := row5 hr3
          clear hwg hBg hsg e1 e2 hBB hB7 hR7 hRA7 hRB7 hP7 hr3 hf3 hP3 HK0 HK1 HK2 HK3 HR3 HP3 hcvf hcv
          go_wp2_with fail
          refine (HSA.out _ (Below.refl _ _)).mono ?_; rintro e w8 ⟨rfl, hB8⟩
          obtain ⟨⟨u0', u1', u2', u3', u4'⟩, ⟨z0', z1', z2', z3', z4'⟩⟩ := HSR.out _ hB8
          have HX := hide (HSB.out _ hB8)
          have HB8 := hide (HB7.out.trans (hB8.mono HB7.out.size))
          clear u0 u1 u2 u3 u4 z0 z1 z2 z3 z4 y0 y1 x0 x1 hB8 HSA HSB HSR HB7
          go_wp2_with fail
          refine HX.out.mono ?_; rintro e w9 ⟨rfl, hB9⟩
          have HB9 := hide (HB8.out.trans (hB9.mono HB8.out.size))
          have HY := hide (HE.out _ HB9.out)
          clear hB9 HX HB8 u0' u1' u2' u3' u4' z0' z1' z2' z3' z4'
          go_wp2_with fail
          refine HY.out.mono ?_; rintro e w10 ⟨rfl, hB10⟩
          have HB10 := hide (HB9.out.trans (hB10.mono HB9.out.size))
          go_wp2_with fail
          go_ret
          exact ⟨rfl, HB10.out⟩
        · skip
          go_simp
          obtain ⟨v3, hv⟩ : ∃ W, W = v2.alloc (.cells #[.int .i64 0, .int .i64 0, .string ⟨#[]⟩, .slice none 0 0, .slice none 0 0] 27) := ⟨_, rfl⟩
          obtain ⟨gA, hg⟩ : ∃ g, g = v2.heap.size := ⟨_, rfl⟩
          rw [← hv, ← hg]
          have hRA : Row v3 gA 27 [.int .i64 0, .int .i64 0, .string ⟨#[]⟩, .slice none 0 0, .slice none 0 0] := by rw [hv, hg]; exact Row.new v2 _ _
          have hb3 : Below v2.heap.size v2 v3 := by rw [hv]; exact (Below.refl _ _).alloc (Nat.le_refl _) _
          have hLA : w3.heap.size ≤ gA := by rw [hg]; exact hB.size
          have hB := hB.trans (hb3.mono hB.size)
          have hRB := hRB.below hb3
          have hRS := hRS.below hb3
          clear hv hg hb3
          refine hK.out _ _ trivial (fun hH => ?_)
          clear hK K
          refine oneH (i := 12) rfl (by kernel_rfl) (fun K hK => ?_)
          have hqA := hRA.lt
          have hqB := hRB.lt
          go_simp
          go_at_call 8
          refine (HP2.out v3).mono ?_; rintro e v4 ⟨bb, qq, bb', qq', rfl, hPP, hb4⟩
          have hB := hB.trans (hb4.mono hB.size)
          have hRA := hRA.below hb4
          have hRB := hRB.below hb4
          have hRS := hRS.below hb4
          obtain ⟨lp, hlp⟩ : ∃ l, l = v3.heap.size := ⟨_, rfl⟩
          rw [← hlp] at hPP
          obtain ⟨vp, hvp⟩ : ∃ W, W = v4 := ⟨_, rfl⟩
          rw [← hvp] at hPP
          have hKP : ∀ j, lp ≤ j → j < vp.heap.size → v4.heap[j]? = vp.heap[j]? := fun j _ _ => by rw [hvp]
          have hsp : vp.heap.size ≤ v4.heap.size := by rw [hvp]; exact Nat.le_refl _
          have hAP : gA < lp ∨ vp.heap.size ≤ gA := .inl (by rw [hlp]; exact hqA)
          have hBP : gB < lp ∨ vp.heap.size ≤ gB := .inl (by rw [hlp]; exact hqB)
          clear hb4 hlp hvp hqA hqB
          refine hK.out _ _ trivial (fun hH => ?_)
          clear hK K
          refine takeH (i := 13) (v := ?_) rfl (by kernel_rfl) (by kernel_rfl) (by kernel_rfl) (fun _ _ _ h => h) (Or.inl ⟨by rfl, ?_⟩) hH ?_
          rotate_left
          · (intro w hSw; (try dsimp only at hSw); go_simp; try with_reducible rfl)
          simp only [Act.put, List.setIfInBounds_toArray, List.set_cons_zero, List.set_cons_succ]
          refine takeH (i := 14) (v := ?_) rfl (by kernel_rfl) (by kernel_rfl) (by kernel_rfl) (fun _ _ _ h => h) (Or.inl ⟨by rfl, ?_⟩) hH ?_
          rotate_left
          · (intro w hSw; (try dsimp only at hSw); go_simp; try with_reducible rfl)
          simp only [Act.put, List.setIfInBounds_toArray, List.set_cons_zero, List.set_cons_succ]
          refine takeH (i := 15) (v := ?_) rfl (by kernel_rfl) (by kernel_rfl) (by kernel_rfl) (fun _ _ _ h => h) (Or.inl ⟨by rfl, ?_⟩) hH ?_
          rotate_left
          · (intro w hSw; (try dsimp only at hSw); go_simp; try with_reducible rfl)
          simp only [Act.put, List.setIfInBounds_toArray, List.set_cons_zero, List.set_cons_succ]
          refine oneH (i := 18) rfl (by kernel_rfl) (fun K hK => ?_)
          obtain ⟨v5, hv⟩ : ∃ W, W = set5 v4 gA (.int .i64 (kD r2)) (.int .i64 (nD r2)) (.string (sD r2)) (.slice bb (iD r2).length qq) (.slice bb' (mD r2).length qq') := ⟨_, rfl⟩
          obtain ⟨t0, t1, t2, t3, t4⟩ := row5 hRA
          have q0 := hRA.frozen 0
          have q1 := hRA.frozen 1
          have q2 := hRA.frozen 2
          have q3 := hRA.frozen 3
          have q4 := hRA.frozen 4
          have hRA2 : Row v5 gA 27 [.int .i64 (kD r2), .int .i64 (nD r2), .string (sD r2), .slice bb (iD r2).length qq, .slice bb' (mD r2).length qq'] := by rw [hv]; exact row_set5 hRA _ _ _ _ _
          have hRB : Row v5 gB 30 [.int .i64 0, .int .i64 0] := by rw [hv]; exact row_far5 hRB (Ne.symm (Row.ne_ hRA hRB (by decide))) _ _ _ _ _
          have hB : Below w3.heap.size w3 v5 := by rw [hv]; exact below_set5 hB hLA _ _ _ _ _
          have hKP : ∀ j, lp ≤ j → j < vp.heap.size → v5.heap[j]? = vp.heap[j]? := fun j j1 j2 => by rw [hv, set5_heap _ _ _ _ _ _ _ (by omega)]; exact hKP j j1 j2
          have hsp : vp.heap.size ≤ v5.heap.size := by rw [hv, set5_size]; exact hsp
          unfold set5 at hv
          go_simp
          rw [← hv]
          clear hv t0 t1 t2 t3 t4 q0 q1 q2 q3 q4 hRA hRS
          have hRA := hRA2
          clear hRA2
          refine hK.out _ _ trivial (fun hH => ?_)
          clear hK K
          have hne : gA ≠ gB := Row.ne_ hRA hRB (by decide)
          obtain ⟨wf, hwf⟩ : ∃ W, W = (v5.setCell ⟨gB, 0, none⟩ (.int .i64 0)).setCell ⟨gB, 1, none⟩ (.int .i64 0) := ⟨_, rfl⟩
          obtain ⟨k0, k1, k2, k3⟩ := strings_fin hRA hRB hne hB hLB hPP hKP hBP hsp hwf
          have t0 : v5.cell? ⟨gB, 0, none⟩ = some (.int .i64 0) := hRB.cell 0
          have t1 : v5.cell? ⟨gB, 1, none⟩ = some (.int .i64 0) := hRB.cell 1
          have q0 := hRB.frozen 0
          have q1 := hRB.frozen 1
          clear hRA hRB hB hPP hKP hAP hBP hsp
          refine oneH (i := 19) rfl (by kernel_rfl) (fun K hK => ?_)
          go_simp
          rw [← hwf]
          refine hK.out _ _ trivial (fun hH => ?_)
          clear hK K hwf t0 t1 q0 q1
          refine wpAnyH_done (by kernel_rfl) ?_ _
          have HK0 := hide k0; have HK1 := hide k1; have HK2 := hide k2; have HK3 := hide k3
          clear k0 k1 k2 k3 hH hs1 hs2 e1 e2 e4 l1 l2 hSS s1 s2 HU hp1 hne hLA hLB
          have hcvf := hcv wf
          go_upto_region 6 with fail
          obtain ⟨wg, hwg⟩ : ∃ W, W = wf.alloc (.cells #[.int .u8 (c.toNat : Int)] 5) := ⟨_, rfl⟩
          have hBg : Below wf.heap.size wf wg := by rw [hwg]; exact (Below.refl _ _).alloc (Nat.le_refl _) _
          have hsg : wf.heap.size + 1 = wg.heap.size := by rw [hwg]; simp
          rw [← hwg, hsg]
          obtain ⟨w7, g7, e1, e2, hB7, z0, z1, z2, z3, z4, hR7⟩ := boxD wg 4 0 T (.slice none 0 0) (.slice none 0 0)
          rw [e1, e2]
          have hBB := hBg.trans (hB7.mono hBg.size)
          have HB7 := hide (HB3.out.trans ((HK2.out.trans (hBB.mono HK2.out.size)).mono HB3.out.size))
          have hRA7 := HK0.out.below hBB
          have hRB7 := HK1.out.below hBB
          have hP7 := HK3.out.turn (Same.of_below hBB) hBB.size
          have hr3 := (HR3.out.1.below HK2.out).below hBB
          have hf3 := (HR3.out.2.below HK2.out).below hBB
          have hP3 := HP3.out.turn (Same.of_below (HK2.out.trans (hBB.mono HK2.out.size))) (HK2.out.trans (hBB.mono HK2.out.size)).size
          have HSR := hide fun W (h : Below w7.heap.size w7 W) => And.intro (row5 (hRA7.below h)) (row5 (hR7.below h))
          have HSA := hide fun W (h : Below w7.heap.size w7 W) => (strings_same HTT.out (hP3.turn (Same.of_below h) h.size) HM1.out s1b : Calls Tryd.prog 9 #[.agg #[.int .i64 (kD r1), .int .i64 (nD r1), .string (sD r1), .slice b2 (iD r1).length q2, .slice b2' (mD r1).length q2'], .agg #[.int .i64 4, .int .i64 0, .string T, .slice none 0 0, .slice none 0 0]] W fun e w' => e = .returned (.bool true) ∧ Below W.heap.size W w')
          have HSB := hide fun W (h : Below w7.heap.size w7 W) => (strings_same HTT.out (hP7.turn (Same.of_below h) h.size) HM2.out s2b : Calls Tryd.prog 9 #[.agg #[.int .i64 (kD r2), .int .i64 (nD r2), .string (sD r2), .slice bb (iD r2).length qq, .slice bb' (mD r2).length qq'], .agg #[.int .i64 4, .int .i64 0, .string T, .slice none 0 0, .slice none 0 0]] W fun e w' => e = .returned (.bool true) ∧ Below W.heap.size W w')
          have y0 : w7.cell? ⟨gB, 0, none⟩ = some (.int .i64 0) := hRB7.cell 0
          have y1 : w7.cell? ⟨gB, 1, none⟩ = some (.int .i64 0) := hRB7.cell 1
          have x0 : w7.cell? ⟨f3, 0, none⟩ = some (.int .i64 0) := hf3.cell 0
          have x1 : w7.cell? ⟨f3, 1, none⟩ = some (.int .i64 0) := hf3.cell 1
          obtain ⟨u0, u1, u2, u3, u4⟩ := row5 hr3
          clear hwg hBg hsg e1 e2 hBB hB7 hR7 hRA7 hRB7 hP7 hr3 hf3 hP3 HK0 HK1 HK2 HK3 HR3 HP3 hcvf hcv
          go_wp2_with fail
          refine (HSA.out _ (Below.refl _ _)).mono ?_; rintro e w8 ⟨rfl, hB8⟩
          obtain ⟨⟨u0', u1', u2', u3', u4'⟩, ⟨z0', z1', z2', z3', z4'⟩⟩ := HSR.out _ hB8
          have HX := hide (HSB.out _ hB8)
          have HB8 := hide (HB7.out.trans (hB8.mono HB7.out.size))
          clear u0 u1 u2 u3 u4 z0 z1 z2 z3 z4 y0 y1 x0 x1 hB8 HSA HSB HSR HB7
          go_wp2_with fail
          refine HX.out.mono ?_; rintro e w9 ⟨rfl, hB9⟩
          have HB9 := hide (HB8.out.trans (hB9.mono HB8.out.size))
          have HY := hide (HE.out _ HB9.out)
          clear hB9 HX HB8 u0' u1' u2' u3' u4' z0' z1' z2' z3' z4'
          go_wp2_with fail
          refine HY.out.mono ?_; rintro e w10 ⟨rfl, hB10⟩
          have HB10 := hide (HB9.out.trans (hB10.mono HB9.out.size))
          go_wp2_with fail
          go_ret
          exact ⟨rfl, HB10.out⟩
      · skip
        go_simp
        obtain ⟨v3, hv⟩ : ∃ W, W = v2.alloc (.cells #[.int .i64 0, .int .i64 0, .string ⟨#[]⟩, .slice none 0 0, .slice none 0 0] 27) := ⟨_, rfl⟩
        obtain ⟨gA, hg⟩ : ∃ g, g = v2.heap.size := ⟨_, rfl⟩
        rw [← hv, ← hg]
        have hRA : Row v3 gA 27 [.int .i64 0, .int .i64 0, .string ⟨#[]⟩, .slice none 0 0, .slice none 0 0] := by rw [hv, hg]; exact Row.new v2 _ _
        have hb3 : Below v2.heap.size v2 v3 := by rw [hv]; exact (Below.refl _ _).alloc (Nat.le_refl _) _
        have hLA : w3.heap.size ≤ gA := by rw [hg]; exact hB.size
        have hB := hB.trans (hb3.mono hB.size)
        have hRB := hRB.below hb3
        have hRS := hRS.below hb3
        clear hv hg hb3
        refine hK.out _ _ trivial (fun hH => ?_)
        clear hK K
        refine oneH (i := 9) rfl (by kernel_rfl) (fun K hK => ?_)
        have hcv2 := RowY.str hRS 2 2 (Nat.le_refl _)
        rw [show [hexN hi, hexU lo].take 2 = [hexN hi, hexU lo] from rfl] at hcv2
        go_simp
        clear hcv2
        refine hK.out _ _ trivial (fun hH => ?_)
        clear hK K
        refine takeH (i := 10) (v := ?_) rfl (by kernel_rfl) (by kernel_rfl) (by kernel_rfl) (fun _ _ _ h => h) (Or.inl ⟨by rfl, ?_⟩) hH ?_
        rotate_left
        · (intro w hSw; (try dsimp only at hSw); go_simp; try with_reducible rfl)
        simp only [Act.put, List.setIfInBounds_toArray, List.set_cons_zero, List.set_cons_succ]
        refine takeH (i := 11) (v := ?_) rfl (by kernel_rfl) (by kernel_rfl) (by kernel_rfl) (fun _ _ _ h => h) (Or.inl ⟨by rfl, ?_⟩) hH ?_
        rotate_left
        · (intro w hSw; (try dsimp only at hSw); go_simp; try with_reducible rfl)
        simp only [Act.put, List.setIfInBounds_toArray, List.set_cons_zero, List.set_cons_succ]
        refine oneH (i := 12) rfl (by kernel_rfl) (fun K hK => ?_)
        have hqA := hRA.lt
        have hqB := hRB.lt
        go_simp
        go_at_call 8
        refine (HP2.out v3).mono ?_; rintro e v4 ⟨bb, qq, bb', qq', rfl, hPP, hb4⟩
        have hB := hB.trans (hb4.mono hB.size)
        have hRA := hRA.below hb4
        have hRB := hRB.below hb4
        have hRS := hRS.below hb4
        obtain ⟨lp, hlp⟩ : ∃ l, l = v3.heap.size := ⟨_, rfl⟩
        rw [← hlp] at hPP
        obtain ⟨vp, hvp⟩ : ∃ W, W = v4 := ⟨_, rfl⟩
        rw [← hvp] at hPP
        have hKP : ∀ j, lp ≤ j → j < vp.heap.size → v4.heap[j]? = vp.heap[j]? := fun j _ _ => by rw [hvp]
        have hsp : vp.heap.size ≤ v4.heap.size := by rw [hvp]; exact Nat.le_refl _
        have hAP : gA < lp ∨ vp.heap.size ≤ gA := .inl (by rw [hlp]; exact hqA)
        have hBP : gB < lp ∨ vp.heap.size ≤ gB := .inl (by rw [hlp]; exact hqB)
        clear hb4 hlp hvp hqA hqB
        refine hK.out _ _ trivial (fun hH => ?_)
        clear hK K
        refine takeH (i := 13) (v := ?_) rfl (by kernel_rfl) (by kernel_rfl) (by kernel_rfl) (fun _ _ _ h => h) (Or.inl ⟨by rfl, ?_⟩) hH ?_
        rotate_left
        · (intro w hSw; (try dsimp only at hSw); go_simp; try with_reducible rfl)
        simp only [Act.put, List.setIfInBounds_toArray, List.set_cons_zero, List.set_cons_succ]
        refine takeH (i := 14) (v := ?_) rfl (by kernel_rfl) (by kernel_rfl) (by kernel_rfl) (fun _ _ _ h => h) (Or.inl ⟨by rfl, ?_⟩) hH ?_
        rotate_left
        · (intro w hSw; (try dsimp only at hSw); go_simp; try with_reducible rfl)
        simp only [Act.put, List.setIfInBounds_toArray, List.set_cons_zero, List.set_cons_succ]
        refine takeH (i := 15) (v := ?_) rfl (by kernel_rfl) (by kernel_rfl) (by kernel_rfl) (fun _ _ _ h => h) (Or.inl ⟨by rfl, ?_⟩) hH ?_
        rotate_left
        · (intro w hSw; (try dsimp only at hSw); go_simp; try with_reducible rfl)
        simp only [Act.put, List.setIfInBounds_toArray, List.set_cons_zero, List.set_cons_succ]
        refine oneH (i := 18) rfl (by kernel_rfl) (fun K hK => ?_)
        obtain ⟨v5, hv⟩ : ∃ W, W = set5 v4 gA (.int .i64 (kD r2)) (.int .i64 (nD r2)) (.string (sD r2)) (.slice bb (iD r2).length qq) (.slice bb' (mD r2).length qq') := ⟨_, rfl⟩
        obtain ⟨t0, t1, t2, t3, t4⟩ := row5 hRA
        have q0 := hRA.frozen 0
        have q1 := hRA.frozen 1
        have q2 := hRA.frozen 2
        have q3 := hRA.frozen 3
        have q4 := hRA.frozen 4
        have hRA2 : Row v5 gA 27 [.int .i64 (kD r2), .int .i64 (nD r2), .string (sD r2), .slice bb (iD r2).length qq, .slice bb' (mD r2).length qq'] := by rw [hv]; exact row_set5 hRA _ _ _ _ _
        have hRB : Row v5 gB 30 [.int .i64 0, .int .i64 0] := by rw [hv]; exact row_far5 hRB (Ne.symm (Row.ne_ hRA hRB (by decide))) _ _ _ _ _
        have hB : Below w3.heap.size w3 v5 := by rw [hv]; exact below_set5 hB hLA _ _ _ _ _
        have hKP : ∀ j, lp ≤ j → j < vp.heap.size → v5.heap[j]? = vp.heap[j]? := fun j j1 j2 => by rw [hv, set5_heap _ _ _ _ _ _ _ (by omega)]; exact hKP j j1 j2
        have hsp : vp.heap.size ≤ v5.heap.size := by rw [hv, set5_size]; exact hsp
        unfold set5 at hv
        go_simp
        rw [← hv]
        clear hv t0 t1 t2 t3 t4 q0 q1 q2 q3 q4 hRA hRS
        have hRA := hRA2
        clear hRA2
        refine hK.out _ _ trivial (fun hH => ?_)
        clear hK K
        have hne : gA ≠ gB := Row.ne_ hRA hRB (by decide)
        obtain ⟨wf, hwf⟩ : ∃ W, W = (v5.setCell ⟨gB, 0, none⟩ (.int .i64 0)).setCell ⟨gB, 1, none⟩ (.int .i64 0) := ⟨_, rfl⟩
        obtain ⟨k0, k1, k2, k3⟩ := strings_fin hRA hRB hne hB hLB hPP hKP hBP hsp hwf
        have t0 : v5.cell? ⟨gB, 0, none⟩ = some (.int .i64 0) := hRB.cell 0
        have t1 : v5.cell? ⟨gB, 1, none⟩ = some (.int .i64 0) := hRB.cell 1
        have q0 := hRB.frozen 0
        have q1 := hRB.frozen 1
        clear hRA hRB hB hPP hKP hAP hBP hsp
        refine oneH (i := 19) rfl (by kernel_rfl) (fun K hK => ?_)
        go_simp
        rw [← hwf]
        refine hK.out _ _ trivial (fun hH => ?_)
        clear hK K hwf t0 t1 q0 q1
        refine wpAnyH_done (by kernel_rfl) ?_ _
        have HK0 := hide k0; have HK1 := hide k1; have HK2 := hide k2; have HK3 := hide k3
        clear k0 k1 k2 k3 hH hs1 hs2 e1 e2 e4 l1 l2 hSS s1 s2 HU hp1 hne hLA hLB
        have hcvf := hcv wf
        go_upto_region 6 with fail
        obtain ⟨wg, hwg⟩ : ∃ W, W = wf.alloc (.cells #[.int .u8 (c.toNat : Int)] 5) := ⟨_, rfl⟩
        have hBg : Below wf.heap.size wf wg := by rw [hwg]; exact (Below.refl _ _).alloc (Nat.le_refl _) _
        have hsg : wf.heap.size + 1 = wg.heap.size := by rw [hwg]; simp
        rw [← hwg, hsg]
        obtain ⟨w7, g7, e1, e2, hB7, z0, z1, z2, z3, z4, hR7⟩ := boxD wg 4 0 T (.slice none 0 0) (.slice none 0 0)
        rw [e1, e2]
        have hBB := hBg.trans (hB7.mono hBg.size)
        have HB7 := hide (HB3.out.trans ((HK2.out.trans (hBB.mono HK2.out.size)).mono HB3.out.size))
        have hRA7 := HK0.out.below hBB
        have hRB7 := HK1.out.below hBB
        have hP7 := HK3.out.turn (Same.of_below hBB) hBB.size
        have hr3 := (HR3.out.1.below HK2.out).below hBB
        have hf3 := (HR3.out.2.below HK2.out).below hBB
        have hP3 := HP3.out.turn (Same.of_below (HK2.out.trans (hBB.mono HK2.out.size))) (HK2.out.trans (hBB.mono HK2.out.size)).size
        have HSR := hide fun W (h : Below w7.heap.size w7 W) => And.intro (row5 (hRA7.below h)) (row5 (hR7.below h))
        have HSA := hide fun W (h : Below w7.heap.size w7 W) => (strings_same HTT.out (hP3.turn (Same.of_below h) h.size) HM1.out s1b : Calls Tryd.prog 9 #[.agg #[.int .i64 (kD r1), .int .i64 (nD r1), .string (sD r1), .slice b2 (iD r1).length q2, .slice b2' (mD r1).length q2'], .agg #[.int .i64 4, .int .i64 0, .string T, .slice none 0 0, .slice none 0 0]] W fun e w' => e = .returned (.bool true) ∧ Below W.heap.size W w')
        have HSB := hide fun W (h : Below w7.heap.size w7 W) => (strings_same HTT.out (hP7.turn (Same.of_below h) h.size) HM2.out s2b : Calls Tryd.prog 9 #[.agg #[.int .i64 (kD r2), .int .i64 (nD r2), .string (sD r2), .slice bb (iD r2).length qq, .slice bb' (mD r2).length qq'], .agg #[.int .i64 4, .int .i64 0, .string T, .slice none 0 0, .slice none 0 0]] W fun e w' => e = .returned (.bool true) ∧ Below W.heap.size W w')
        have y0 : w7.cell? ⟨gB, 0, none⟩ = some (.int .i64 0) := hRB7.cell 0
        have y1 : w7.cell? ⟨gB, 1, none⟩ = some (.int .i64 0) := hRB7.cell 1
        have x0 : w7.cell? ⟨f3, 0, none⟩ = some (.int .i64 0) := hf3.cell 0
        have x1 : w7.cell? ⟨f3, 1, none⟩ = some (.int .i64 0) := hf3.cell 1
        obtain ⟨u0, u1, u2, u3, u4⟩ := row5 hr3
        clear hwg hBg hsg e1 e2 hBB hB7 hR7 hRA7 hRB7 hP7 hr3 hf3 hP3 HK0 HK1 HK2 HK3 HR3 HP3 hcvf hcv
        go_wp2_with fail
        refine (HSA.out _ (Below.refl _ _)).mono ?_; rintro e w8 ⟨rfl, hB8⟩
        obtain ⟨⟨u0', u1', u2', u3', u4'⟩, ⟨z0', z1', z2', z3', z4'⟩⟩ := HSR.out _ hB8
        have HX := hide (HSB.out _ hB8)
        have HB8 := hide (HB7.out.trans (hB8.mono HB7.out.size))
        clear u0 u1 u2 u3 u4 z0 z1 z2 z3 z4 y0 y1 x0 x1 hB8 HSA HSB HSR HB7
        go_wp2_with fail
        refine HX.out.mono ?_; rintro e w9 ⟨rfl, hB9⟩
        have HB9 := hide (HB8.out.trans (hB9.mono HB8.out.size))
        have HY := hide (HE.out _ HB9.out)
        clear hB9 HX HB8 u0' u1' u2' u3' u4' z0' z1' z2' z3' z4'
        go_wp2_with fail
        refine HY.out.mono ?_; rintro e w10 ⟨rfl, hB10⟩
        have HB10 := hide (HB9.out.trans (hB10.mono HB9.out.size))
        go_wp2_with fail
        go_ret
        exact ⟨rfl, HB10.out⟩
  · skip
    go_simp
    obtain ⟨v1, hv⟩ : ∃ W, W = v0.alloc (.cells #[.int .i64 0, .int .i64 0, .string ⟨#[]⟩, .slice none 0 0, .slice none 0 0] 27) := ⟨_, rfl⟩
    obtain ⟨gA, hg⟩ : ∃ g, g = v0.heap.size := ⟨_, rfl⟩
    rw [← hv, ← hg]
    have hRA : Row v1 gA 27 [.int .i64 0, .int .i64 0, .string ⟨#[]⟩, .slice none 0 0, .slice none 0 0] := by rw [hv, hg]; exact Row.new v0 _ _
    have hb1 : Below v0.heap.size v0 v1 := by rw [hv]; exact (Below.refl _ _).alloc (Nat.le_refl _) _
    have hLA : w3.heap.size ≤ gA := by rw [hg]; exact hB.size
    have hB := hB.trans (hb1.mono hB.size)
    clear hv hg hb1
    refine hK.out _ _ trivial (fun hH => ?_)
    clear hK K
    refine twoH (i := 8) (j := 17) rfl rfl (by kernel_rfl) (fun K hK => ?_) (fun K hK => ?_)
    · skip
      go_simp
      obtain ⟨v2, hv⟩ : ∃ W, W = v1.alloc (.cells #[.int .u8 ((hexN hi).toNat : Int), .int .u8 ((hexU lo).toNat : Int)] 5) := ⟨_, rfl⟩
      obtain ⟨gS, hg⟩ : ∃ g, g = v1.heap.size := ⟨_, rfl⟩
      rw [← hv, ← hg]
      have hRS : Row v2 gS 5 (byL [hexN hi, hexU lo]) := by rw [hv, hg]; exact Row.new v1 _ _
      have hb2 : Below v1.heap.size v1 v2 := by rw [hv]; exact (Below.refl _ _).alloc (Nat.le_refl _) _
      have hB := hB.trans (hb2.mono hB.size)
      have hRA := hRA.below hb2
      clear hv hg hb2
      refine hK.out _ _ trivial (fun hH => ?_)
      clear hK K
      refine twoH (i := 9) (j := 17) rfl rfl (by kernel_rfl) (fun K hK => ?_) (fun K hK => ?_)
      · skip
        have hcv2 := RowY.str hRS 2 2 (Nat.le_refl _)
        rw [show [hexN hi, hexU lo].take 2 = [hexN hi, hexU lo] from rfl] at hcv2
        go_simp
        clear hcv2
        refine hK.out _ _ trivial (fun hH => ?_)
        clear hK K
        refine takeH (i := 10) (v := ?_) rfl (by kernel_rfl) (by kernel_rfl) (by kernel_rfl) (fun _ _ _ h => h) (Or.inl ⟨by rfl, ?_⟩) hH ?_
        rotate_left
        · (intro w hSw; (try dsimp only at hSw); go_simp; try with_reducible rfl)
        simp only [Act.put, List.setIfInBounds_toArray, List.set_cons_zero, List.set_cons_succ]
        refine takeH (i := 11) (v := ?_) rfl (by kernel_rfl) (by kernel_rfl) (by kernel_rfl) (fun _ _ _ h => h) (Or.inl ⟨by rfl, ?_⟩) hH ?_
        rotate_left
        · (intro w hSw; (try dsimp only at hSw); go_simp; try with_reducible rfl)
        simp only [Act.put, List.setIfInBounds_toArray, List.set_cons_zero, List.set_cons_succ]
        refine twoH (i := 12) (j := 17) rfl rfl (by kernel_rfl) (fun K hK => ?_) (fun K hK => ?_)
        · skip
          have hqA := hRA.lt
          go_simp
          go_at_call 8
          refine (HP2.out v2).mono ?_; rintro e v3 ⟨bb, qq, bb', qq', rfl, hPP, hb3⟩
          have hB := hB.trans (hb3.mono hB.size)
          have hRA := hRA.below hb3
          have hRS := hRS.below hb3
          obtain ⟨lp, hlp⟩ : ∃ l, l = v2.heap.size := ⟨_, rfl⟩
          rw [← hlp] at hPP
          obtain ⟨vp, hvp⟩ : ∃ W, W = v3 := ⟨_, rfl⟩
          rw [← hvp] at hPP
          have hKP : ∀ j, lp ≤ j → j < vp.heap.size → v3.heap[j]? = vp.heap[j]? := fun j _ _ => by rw [hvp]
          have hsp : vp.heap.size ≤ v3.heap.size := by rw [hvp]; exact Nat.le_refl _
          have hAP : gA < lp ∨ vp.heap.size ≤ gA := .inl (by rw [hlp]; exact hqA)
          clear hb3 hlp hvp hqA
          refine hK.out _ _ trivial (fun hH => ?_)
          clear hK K
          refine takeH (i := 13) (v := ?_) rfl (by kernel_rfl) (by kernel_rfl) (by kernel_rfl) (fun _ _ _ h => h) (Or.inl ⟨by rfl, ?_⟩) hH ?_
          rotate_left
          · (intro w hSw; (try dsimp only at hSw); go_simp; try with_reducible rfl)
          simp only [Act.put, List.setIfInBounds_toArray, List.set_cons_zero, List.set_cons_succ]
          refine takeH (i := 14) (v := ?_) rfl (by kernel_rfl) (by kernel_rfl) (by kernel_rfl) (fun _ _ _ h => h) (Or.inl ⟨by rfl, ?_⟩) hH ?_
          rotate_left
          · (intro w hSw; (try dsimp only at hSw); go_simp; try with_reducible rfl)
          simp only [Act.put, List.setIfInBounds_toArray, List.set_cons_zero, List.set_cons_succ]
          refine takeH (i := 15) (v := ?_) rfl (by kernel_rfl) (by kernel_rfl) (by kernel_rfl) (fun _ _ _ h => h) (Or.inl ⟨by rfl, ?_⟩) hH ?_
          rotate_left
          · (intro w hSw; (try dsimp only at hSw); go_simp; try with_reducible rfl)
          simp only [Act.put, List.setIfInBounds_toArray, List.set_cons_zero, List.set_cons_succ]
          refine oneH (i := 17) rfl (by kernel_rfl) (fun K hK => ?_)
          go_simp
          obtain ⟨v4, hv⟩ : ∃ W, W = v3.alloc (.cells #[.int .i64 0, .int .i64 0] 30) := ⟨_, rfl⟩
          obtain ⟨gB, hg⟩ : ∃ g, g = v3.heap.size := ⟨_, rfl⟩
          rw [← hv, ← hg]
          have hRB : Row v4 gB 30 [.int .i64 0, .int .i64 0] := by rw [hv, hg]; exact Row.new v3 _ _
          have hb4 : Below v3.heap.size v3 v4 := by rw [hv]; exact (Below.refl _ _).alloc (Nat.le_refl _) _
          have hLB : w3.heap.size ≤ gB := by rw [hg]; exact hB.size
          have hBP : gB < lp ∨ vp.heap.size ≤ gB := .inr (by rw [hg]; exact hsp)
          have hB := hB.trans (hb4.mono hB.size)
          have hRA := hRA.below hb4
          have hRS := hRS.below hb4
          have hKP := fun j (j1 : lp ≤ j) (j2 : j < vp.heap.size) => (hb4.block j (Nat.lt_of_lt_of_le j2 hsp)).trans (hKP j j1 j2)
          have hsp := Nat.le_trans hsp hb4.size
          clear hv hg hb4
          refine hK.out _ _ trivial (fun hH => ?_)
          clear hK K
          refine oneH (i := 18) rfl (by kernel_rfl) (fun K hK => ?_)
          obtain ⟨v5, hv⟩ : ∃ W, W = set5 v4 gA (.int .i64 (kD r2)) (.int .i64 (nD r2)) (.string (sD r2)) (.slice bb (iD r2).length qq) (.slice bb' (mD r2).length qq') := ⟨_, rfl⟩
          obtain ⟨t0, t1, t2, t3, t4⟩ := row5 hRA
          have q0 := hRA.frozen 0
          have q1 := hRA.frozen 1
          have q2 := hRA.frozen 2
          have q3 := hRA.frozen 3
          have q4 := hRA.frozen 4
          have hRA2 : Row v5 gA 27 [.int .i64 (kD r2), .int .i64 (nD r2), .string (sD r2), .slice bb (iD r2).length qq, .slice bb' (mD r2).length qq'] := by rw [hv]; exact row_set5 hRA _ _ _ _ _
          have hRB : Row v5 gB 30 [.int .i64 0, .int .i64 0] := by rw [hv]; exact row_far5 hRB (Ne.symm (Row.ne_ hRA hRB (by decide))) _ _ _ _ _
          have hB : Below w3.heap.size w3 v5 := by rw [hv]; exact below_set5 hB hLA _ _ _ _ _
          have hKP : ∀ j, lp ≤ j → j < vp.heap.size → v5.heap[j]? = vp.heap[j]? := fun j j1 j2 => by rw [hv, set5_heap _ _ _ _ _ _ _ (by omega)]; exact hKP j j1 j2
          have hsp : vp.heap.size ≤ v5.heap.size := by rw [hv, set5_size]; exact hsp
          unfold set5 at hv
          go_simp
          rw [← hv]
          clear hv t0 t1 t2 t3 t4 q0 q1 q2 q3 q4 hRA hRS
          have hRA := hRA2
          clear hRA2
          refine hK.out _ _ trivial (fun hH => ?_)
          clear hK K
          have hne : gA ≠ gB := Row.ne_ hRA hRB (by decide)
          obtain ⟨wf, hwf⟩ : ∃ W, W = (v5.setCell ⟨gB, 0, none⟩ (.int .i64 0)).setCell ⟨gB, 1, none⟩ (.int .i64 0) := ⟨_, rfl⟩
          obtain ⟨k0, k1, k2, k3⟩ := strings_fin hRA hRB hne hB hLB hPP hKP hBP hsp hwf
          have t0 : v5.cell? ⟨gB, 0, none⟩ = some (.int .i64 0) := hRB.cell 0
          have t1 : v5.cell? ⟨gB, 1, none⟩ = some (.int .i64 0) := hRB.cell 1
          have q0 := hRB.frozen 0
          have q1 := hRB.frozen 1
          clear hRA hRB hB hPP hKP hAP hBP hsp
          refine oneH (i := 19) rfl (by kernel_rfl) (fun K hK => ?_)
          go_simp
          rw [← hwf]
          refine hK.out _ _ trivial (fun hH => ?_)
          clear hK K hwf t0 t1 q0 q1
          refine wpAnyH_done (by kernel_rfl) ?_ _
          have HK0 := hide k0; have HK1 := hide k1; have HK2 := hide k2; have HK3 := hide k3
          clear k0 k1 k2 k3 hH hs1 hs2 e1 e2 e4 l1 l2 hSS s1 s2 HU hp1 hne hLA hLB
          have hcvf := hcv wf
          go_upto_region 6 with fail
          obtain ⟨wg, hwg⟩ : ∃ W, W = wf.alloc (.cells #[.int .u8 (c.toNat : Int)] 5) := ⟨_, rfl⟩
          have hBg : Below wf.heap.size wf wg := by rw [hwg]; exact (Below.refl _ _).alloc (Nat.le_refl _) _
          have hsg : wf.heap.size + 1 = wg.heap.size := by rw [hwg]; simp
          rw [← hwg, hsg]
          obtain ⟨w7, g7, e1, e2, hB7, z0, z1, z2, z3, z4, hR7⟩ := boxD wg 4 0 T (.slice none 0 0) (.slice none 0 0)
          rw [e1, e2]
          have hBB := hBg.trans (hB7.mono hBg.size)
          have HB7 := hide (HB3.out.trans ((HK2.out.trans (hBB.mono HK2.out.size)).mono HB3.out.size))
          have hRA7 := HK0.out.below hBB
          have hRB7 := HK1.out.below hBB
          have hP7 := HK3.out.turn (Same.of_below hBB) hBB.size
          have hr3 := (HR3.out.1.below HK2.out).below hBB
          have hf3 := (HR3.out.2.below HK2.out).below hBB
          have hP3 := HP3.out.turn (Same.of_below (HK2.out.trans (hBB.mono HK2.out.size))) (HK2.out.trans (hBB.mono HK2.out.size)).size
          have HSR := hide fun W (h : Below w7.heap.size w7 W) => And.intro (row5 (hRA7.below h)) (row5 (hR7.below h))
          have HSA := hide fun W (h : Below w7.heap.size w7 W) => (strings_same HTT.out (hP3.turn (Same.of_below h) h.size) HM1.out s1b : Calls Tryd.prog 9 #[.agg #[.int .i64 (kD r1), .int .i64 (nD r1), .string (sD r1), .slice b2 (iD r1).length q2, .slice b2' (mD r1).length q2'], .agg #[.int .i64 4, .int .i64 0, .string T, .slice none 0 0, .slice none 0 0]] W fun e w' => e = .returned (.bool true) ∧ Below W.heap.size W w')
          have HSB := hide fun W (h : Below w7.heap.size w7 W) => (strings_same HTT.out (hP7.turn (Same.of_below h) h.size) HM2.out s2b : Calls Tryd.prog 9 #[.agg #[.int .i64 (kD r2), .int .i64 (nD r2), .string (sD r2), .slice bb (iD r2).length qq, .slice bb' (mD r2).length qq'], .agg #[.int .i64 4, .int .i64 0, .string T, .slice none 0 0, .slice none 0 0]] W fun e w' => e = .returned (.bool true) ∧ Below W.heap.size W w')
          have y0 : w7.cell? ⟨gB, 0, none⟩ = some (.int .i64 0) := hRB7.cell 0
          have y1 : w7.cell? ⟨gB, 1, none⟩ = some (.int .i64 0) := hRB7.cell 1
          have x0 : w7.cell? ⟨f3, 0, none⟩ = some (.int .i64 0) := hf3.cell 0
          have x1 : w7.cell? ⟨f3, 1, none⟩ = some (.int .i64 0) := hf3.cell 1
          obtain ⟨u0, u1, u2, u3, u4⟩ := row5 hr3
          clear hwg hBg hsg e1 e2 hBB hB7 hR7 hRA7 hRB7 hP7 hr3 hf3 hP3 HK0 HK1 HK2 HK3 HR3 HP3 hcvf hcv
          go_wp2_with fail
          refine (HSA.out _ (Below.refl _ _)).mono ?_; rintro e w8 ⟨rfl, hB8⟩
          obtain ⟨⟨u0', u1', u2', u3', u4'⟩, ⟨z0', z1', z2', z3', z4'⟩⟩ := HSR.out _ hB8
          have HX := hide (HSB.out _ hB8)
          have HB8 := hide (HB7.out.trans (hB8.mono HB7.out.size))
          clear u0 u1 u2 u3 u4 z0 z1 z2 z3 z4 y0 y1 x0 x1 hB8 HSA HSB HSR HB7
          go_wp2_with fail
          refine HX.out.mono ?_; rintro e w9 ⟨rfl, hB9⟩
          have HB9 := hide (HB8.out.trans (hB9.mono HB8.out.size))
          have HY := hide (HE.out _ HB9.out)
          clear hB9 HX HB8 u0' u1' u2' u3' u4' z0' z1' z2' z3' z4'
          go_wp2_with fail
          refine HY.out.mono ?_; rintro e w10 ⟨rfl, hB10⟩
          have HB10 := hide (HB9.out.trans (hB10.mono HB9.out.size))
          go_wp2_with fail
          go_ret
          exact ⟨rfl, HB10.out⟩
        · skip
          go_simp
          obtain ⟨v3, hv⟩ : ∃ W, W = v2.alloc (.cells #[.int .i64 0, .int .i64 0] 30) := ⟨_, rfl⟩
          obtain ⟨gB, hg⟩ : ∃ g, g = v2.heap.size := ⟨_, rfl⟩
          rw [← hv, ← hg]
          have hRB : Row v3 gB 30 [.int .i64 0, .int .i64 0] := by rw [hv, hg]; exact Row.new v2 _ _
          have hb3 : Below v2.heap.size v2 v3 := by rw [hv]; exact (Below.refl _ _).alloc (Nat.le_refl _) _
          have hLB : w3.heap.size ≤ gB := by rw [hg]; exact hB.size
          have hB := hB.trans (hb3.mono hB.size)
          have hRA := hRA.below hb3
          have hRS := hRS.below hb3
          clear hv hg hb3
          refine hK.out _ _ trivial (fun hH => ?_)
          clear hK K
          refine oneH (i := 12) rfl (by kernel_rfl) (fun K hK => ?_)
          have hqA := hRA.lt
          have hqB := hRB.lt
          go_simp
          go_at_call 8
          refine (HP2.out v3).mono ?_; rintro e v4 ⟨bb, qq, bb', qq', rfl, hPP, hb4⟩
          have hB := hB.trans (hb4.mono hB.size)
          have hRA := hRA.below hb4
          have hRB := hRB.below hb4
          have hRS := hRS.below hb4
          obtain ⟨lp, hlp⟩ : ∃ l, l = v3.heap.size := ⟨_, rfl⟩
          rw [← hlp] at hPP
          obtain ⟨vp, hvp⟩ : ∃ W, W = v4 := ⟨_, rfl⟩
          rw [← hvp] at hPP
          have hKP : ∀ j, lp ≤ j → j < vp.heap.size → v4.heap[j]? = vp.heap[j]? := fun j _ _ => by rw [hvp]
          have hsp : vp.heap.size ≤ v4.heap.size := by rw [hvp]; exact Nat.le_refl _
          have hAP : gA < lp ∨ vp.heap.size ≤ gA := .inl (by rw [hlp]; exact hqA)
          have hBP : gB < lp ∨ vp.heap.size ≤ gB := .inl (by rw [hlp]; exact hqB)
          clear hb4 hlp hvp hqA hqB
          refine hK.out _ _ trivial (fun hH => ?_)
          clear hK K
          refine takeH (i := 13) (v := ?_) rfl (by kernel_rfl) (by kernel_rfl) (by kernel_rfl) (fun _ _ _ h => h) (Or.inl ⟨by rfl, ?_⟩) hH ?_
          rotate_left
          · (intro w hSw; (try dsimp only at hSw); go_simp; try with_reducible rfl)
          simp only [Act.put, List.setIfInBounds_toArray, List.set_cons_zero, List.set_cons_succ]
          refine takeH (i := 14) (v := ?_) rfl (by kernel_rfl) (by kernel_rfl) (by kernel_rfl) (fun _ _ _ h => h) (Or.inl ⟨by rfl, ?_⟩) hH ?_
          rotate_left
          · (intro w hSw; (try dsimp only at hSw); go_simp; try with_reducible rfl)
          simp only [Act.put, List.setIfInBounds_toArray, List.set_cons_zero, List.set_cons_succ]
          refine takeH (i := 15) (v := ?_) rfl (by kernel_rfl) (by kernel_rfl) (by kernel_rfl) (fun _ _ _ h => h) (Or.inl ⟨by rfl, ?_⟩) hH ?_
          rotate_left
          · (intro w hSw; (try dsimp only at hSw); go_simp; try with_reducible rfl)
          simp only [Act.put, List.setIfInBounds_toArray, List.set_cons_zero, List.set_cons_succ]
          refine oneH (i := 18) rfl (by kernel_rfl) (fun K hK => ?_)
          obtain ⟨v5, hv⟩ : ∃ W, W = set5 v4 gA (.int .i64 (kD r2)) (.int .i64 (nD r2)) (.string (sD r2)) (.slice bb (iD r2).length qq) (.slice bb' (mD r2).length qq') := ⟨_, rfl⟩
          obtain ⟨t0, t1, t2, t3, t4⟩ := row5 hRA
          have q0 := hRA.frozen 0
          have q1 := hRA.frozen 1
          have q2 := hRA.frozen 2
          have q3 := hRA.frozen 3
          have q4 := hRA.frozen 4
          have hRA2 : Row v5 gA 27 [.int .i64 (kD r2), .int .i64 (nD r2), .string (sD r2), .slice bb (iD r2).length qq, .slice bb' (mD r2).length qq'] := by rw [hv]; exact row_set5 hRA _ _ _ _ _
          have hRB : Row v5 gB 30 [.int .i64 0, .int .i64 0] := by rw [hv]; exact row_far5 hRB (Ne.symm (Row.ne_ hRA hRB (by decide))) _ _ _ _ _
          have hB : Below w3.heap.size w3 v5 := by rw [hv]; exact below_set5 hB hLA _ _ _ _ _
          have hKP : ∀ j, lp ≤ j → j < vp.heap.size → v5.heap[j]? = vp.heap[j]? := fun j j1 j2 => by rw [hv, set5_heap _ _ _ _ _ _ _ (by omega)]; exact hKP j j1 j2
          have hsp : vp.heap.size ≤ v5.heap.size := by rw [hv, set5_size]; exact hsp
          unfold set5 at hv
          go_simp
          rw [← hv]
          clear hv t0 t1 t2 t3 t4 q0 q1 q2 q3 q4 hRA hRS
          have hRA := hRA2
          clear hRA2
          refine hK.out _ _ trivial (fun hH => ?_)
          clear hK K
          have hne : gA ≠ gB := Row.ne_ hRA hRB (by decide)
          obtain ⟨wf, hwf⟩ : ∃ W, W = (v5.setCell ⟨gB, 0, none⟩ (.int .i64 0)).setCell ⟨gB, 1, none⟩ (.int .i64 0) := ⟨_, rfl⟩
          obtain ⟨k0, k1, k2, k3⟩ := strings_fin hRA hRB hne hB hLB hPP hKP hBP hsp hwf
          have t0 : v5.cell? ⟨gB, 0, none⟩ = some (.int .i64 0) := hRB.cell 0
          have t1 : v5.cell? ⟨gB, 1, none⟩ = some (.int .i64 0) := hRB.cell 1
          have q0 := hRB.frozen 0
          have q1 := hRB.frozen 1
          clear hRA hRB hB hPP hKP hAP hBP hsp
          refine oneH (i := 19) rfl (by kernel_rfl) (fun K hK => ?_)
          go_simp
          rw [← hwf]
          refine hK.out _ _ trivial (fun hH => ?_)
          clear hK K hwf t0 t1 q0 q1
          refine wpAnyH_done (by kernel_rfl) ?_ _
          have HK0 := hide k0; have HK1 := hide k1; have HK2 := hide k2; have HK3 := hide k3
          clear k0 k1 k2 k3 hH hs1 hs2 e1 e2 e4 l1 l2 hSS s1 s2 HU hp1 hne hLA hLB
          have hcvf := hcv wf
          go_upto_region 6 with fail
          obtain ⟨wg, hwg⟩ : ∃ W, W = wf.alloc (.cells #[.int .u8 (c.toNat : Int)] 5) := ⟨_, rfl⟩
          have hBg : Below wf.heap.size wf wg := by rw [hwg]; exact (Below.refl _ _).alloc (Nat.le_refl _) _
          have hsg : wf.heap.size + 1 = wg.heap.size := by rw [hwg]; simp
          rw [← hwg, hsg]
          obtain ⟨w7, g7, e1, e2, hB7, z0, z1, z2, z3, z4, hR7⟩ := boxD wg 4 0 T (.slice none 0 0) (.slice none 0 0)
          rw [e1, e2]
          have hBB := hBg.trans (hB7.mono hBg.size)
          have HB7 := hide (HB3.out.trans ((HK2.out.trans (hBB.mono HK2.out.size)).mono HB3.out.size))
          have hRA7 := HK0.out.below hBB
          have hRB7 := HK1.out.below hBB
          have hP7 := HK3.out.turn (Same.of_below hBB) hBB.size
          have hr3 := (HR3.out.1.below HK2.out).below hBB
          have hf3 := (HR3.out.2.below HK2.out).below hBB
          have hP3 := HP3.out.turn (Same.of_below (HK2.out.trans (hBB.mono HK2.out.size))) (HK2.out.trans (hBB.mono HK2.out.size)).size
          have HSR := hide fun W (h : Below w7.heap.size w7 W) => And.intro (row5 (hRA7.below h)) (row5 (hR7.below h))
          have HSA := hide fun W (h : Below w7.heap.size w7 W) => (strings_same HTT.out (hP3.turn (Same.of_below h) h.size) HM1.out s1b : Calls Tryd.prog 9 #[.agg #[.int .i64 (kD r1), .int .i64 (nD r1), .string (sD r1), .slice b2 (iD r1).length q2, .slice b2' (mD r1).length q2'], .agg #[.int .i64 4, .int .i64 0, .string T, .slice none 0 0, .slice none 0 0]] W fun e w' => e = .returned (.bool true) ∧ Below W.heap.size W w')
          have HSB := hide fun W (h : Below w7.heap.size w7 W) => (strings_same HTT.out (hP7.turn (Same.of_below h) h.size) HM2.out s2b : Calls Tryd.prog 9 #[.agg #[.int .i64 (kD r2), .int .i64 (nD r2), .string (sD r2), .slice bb (iD r2).length qq, .slice bb' (mD r2).length qq'], .agg #[.int .i64 4, .int .i64 0, .string T, .slice none 0 0, .slice none 0 0]] W fun e w' => e = .returned (.bool true) ∧ Below W.heap.size W w')
          have y0 : w7.cell? ⟨gB, 0, none⟩ = some (.int .i64 0) := hRB7.cell 0
          have y1 : w7.cell? ⟨gB, 1, none⟩ = some (.int .i64 0) := hRB7.cell 1
          have x0 : w7.cell? ⟨f3, 0, none⟩ = some (.int .i64 0) := hf3.cell 0
          have x1 : w7.cell? ⟨f3, 1, none⟩ = some (.int .i64 0) := hf3.cell 1
          obtain ⟨u0, u1, u2, u3, u4⟩ := row5 hr3
          clear hwg hBg hsg e1 e2 hBB hB7 hR7 hRA7 hRB7 hP7 hr3 hf3 hP3 HK0 HK1 HK2 HK3 HR3 HP3 hcvf hcv
          go_wp2_with fail
          refine (HSA.out _ (Below.refl _ _)).mono ?_; rintro e w8 ⟨rfl, hB8⟩
          obtain ⟨⟨u0', u1', u2', u3', u4'⟩, ⟨z0', z1', z2', z3', z4'⟩⟩ := HSR.out _ hB8
          have HX := hide (HSB.out _ hB8)
          have HB8 := hide (HB7.out.trans (hB8.mono HB7.out.size))
          clear u0 u1 u2 u3 u4 z0 z1 z2 z3 z4 y0 y1 x0 x1 hB8 HSA HSB HSR HB7
          go_wp2_with fail
          refine HX.out.mono ?_; rintro e w9 ⟨rfl, hB9⟩
          have HB9 := hide (HB8.out.trans (hB9.mono HB8.out.size))
          have HY := hide (HE.out _ HB9.out)
          clear hB9 HX HB8 u0' u1' u2' u3' u4' z0' z1' z2' z3' z4'
          go_wp2_with fail
          refine HY.out.mono ?_; rintro e w10 ⟨rfl, hB10⟩
          have HB10 := hide (HB9.out.trans (hB10.mono HB9.out.size))
          go_wp2_with fail
          go_ret
          exact ⟨rfl, HB10.out⟩
      · skip
        go_simp
        obtain ⟨v3, hv⟩ : ∃ W, W = v2.alloc (.cells #[.int .i64 0, .int .i64 0] 30) := ⟨_, rfl⟩
        obtain ⟨gB, hg⟩ : ∃ g, g = v2.heap.size := ⟨_, rfl⟩
        rw [← hv, ← hg]
        have hRB : Row v3 gB 30 [.int .i64 0, .int .i64 0] := by rw [hv, hg]; exact Row.new v2 _ _
        have hb3 : Below v2.heap.size v2 v3 := by rw [hv]; exact (Below.refl _ _).alloc (Nat.le_refl _) _
        have hLB : w3.heap.size ≤ gB := by rw [hg]; exact hB.size
        have hB := hB.trans (hb3.mono hB.size)
        have hRA := hRA.below hb3
        have hRS := hRS.below hb3
        clear hv hg hb3
        refine hK.out _ _ trivial (fun hH => ?_)
        clear hK K
        refine oneH (i := 9) rfl (by kernel_rfl) (fun K hK => ?_)
        have hcv2 := RowY.str hRS 2 2 (Nat.le_refl _)
        rw [show [hexN hi, hexU lo].take 2 = [hexN hi, hexU lo] from rfl] at hcv2
        go_simp
        clear hcv2
        refine hK.out _ _ trivial (fun hH => ?_)
        clear hK K
        refine takeH (i := 10) (v := ?_) rfl (by kernel_rfl) (by kernel_rfl) (by kernel_rfl) (fun _ _ _ h => h) (Or.inl ⟨by rfl, ?_⟩) hH ?_
        rotate_left
        · (intro w hSw; (try dsimp only at hSw); go_simp; try with_reducible rfl)
        simp only [Act.put, List.setIfInBounds_toArray, List.set_cons_zero, List.set_cons_succ]
        refine takeH (i := 11) (v := ?_) rfl (by kernel_rfl) (by kernel_rfl) (by kernel_rfl) (fun _ _ _ h => h) (Or.inl ⟨by rfl, ?_⟩) hH ?_
        rotate_left
        · (intro w hSw; (try dsimp only at hSw); go_simp; try with_reducible rfl)
        simp only [Act.put, List.setIfInBounds_toArray, List.set_cons_zero, List.set_cons_succ]
        refine oneH (i := 12) rfl (by kernel_rfl) (fun K hK => ?_)
        have hqA := hRA.lt
        have hqB := hRB.lt
        go_simp
        go_at_call 8
        refine (HP2.out v3).mono ?_; rintro e v4 ⟨bb, qq, bb', qq', rfl, hPP, hb4⟩
        have hB := hB.trans (hb4.mono hB.size)
        have hRA := hRA.below hb4
        have hRB := hRB.below hb4
        have hRS := hRS.below hb4
        obtain ⟨lp, hlp⟩ : ∃ l, l = v3.heap.size := ⟨_, rfl⟩
        rw [← hlp] at hPP
        obtain ⟨vp, hvp⟩ : ∃ W, W = v4 := ⟨_, rfl⟩
        rw [← hvp] at hPP
        have hKP : ∀ j, lp ≤ j → j < vp.heap.size → v4.heap[j]? = vp.heap[j]? := fun j _ _ => by rw [hvp]
        have hsp : vp.heap.size ≤ v4.heap.size := by rw [hvp]; exact Nat.le_refl _
        have hAP : gA < lp ∨ vp.heap.size ≤ gA := .inl (by rw [hlp]; exact hqA)
        have hBP : gB < lp ∨ vp.heap.size ≤ gB := .inl (by rw [hlp]; exact hqB)
        clear hb4 hlp hvp hqA hqB
        refine hK.out _ _ trivial (fun hH => ?_)
        clear hK K
        refine takeH (i := 13) (v := ?_) rfl (by kernel_rfl) (by kernel_rfl) (by kernel_rfl) (fun _ _ _ h => h) (Or.inl ⟨by rfl, ?_⟩) hH ?_
        rotate_left
        · (intro w hSw; (try dsimp only at hSw); go_simp; try with_reducible rfl)
        simp only [Act.put, List.setIfInBounds_toArray, List.set_cons_zero, List.set_cons_succ]
        refine takeH (i := 14) (v := ?_) rfl (by kernel_rfl) (by kernel_rfl) (by kernel_rfl) (fun _ _ _ h => h) (Or.inl ⟨by rfl, ?_⟩) hH ?_
        rotate_left
        · (intro w hSw; (try dsimp only at hSw); go_simp; try with_reducible rfl)
        simp only [Act.put, List.setIfInBounds_toArray, List.set_cons_zero, List.set_cons_succ]
        refine takeH (i := 15) (v := ?_) rfl (by kernel_rfl) (by kernel_rfl) (by kernel_rfl) (fun _ _ _ h => h) (Or.inl ⟨by rfl, ?_⟩) hH ?_
        rotate_left
        · (intro w hSw; (try dsimp only at hSw); go_simp; try with_reducible rfl)
        simp only [Act.put, List.setIfInBounds_toArray, List.set_cons_zero, List.set_cons_succ]
        refine oneH (i := 18) rfl (by kernel_rfl) (fun K hK => ?_)
        obtain ⟨v5, hv⟩ : ∃ W, W = set5 v4 gA (.int .i64 (kD r2)) (.int .i64 (nD r2)) (.string (sD r2)) (.slice bb (iD r2).length qq) (.slice bb' (mD r2).length qq') := ⟨_, rfl⟩
        obtain ⟨t0, t1, t2, t3, t4⟩ := row5 hRA
        have q0 := hRA.frozen 0
        have q1 := hRA.frozen 1
        have q2 := hRA.frozen 2
        have q3 := hRA.frozen 3
        have q4 := hRA.frozen 4
        have hRA2 : Row v5 gA 27 [.int .i64 (kD r2), .int .i64 (nD r2), .string (sD r2), .slice bb (iD r2).length qq, .slice bb' (mD r2).length qq'] := by rw [hv]; exact row_set5 hRA _ _ _ _ _
        have hRB : Row v5 gB 30 [.int .i64 0, .int .i64 0] := by rw [hv]; exact row_far5 hRB (Ne.symm (Row.ne_ hRA hRB (by decide))) _ _ _ _ _
        have hB : Below w3.heap.size w3 v5 := by rw [hv]; exact below_set5 hB hLA _ _ _ _ _
        have hKP : ∀ j, lp ≤ j → j < vp.heap.size → v5.heap[j]? = vp.heap[j]? := fun j j1 j2 => by rw [hv, set5_heap _ _ _ _ _ _ _ (by omega)]; exact hKP j j1 j2
        have hsp : vp.heap.size ≤ v5.heap.size := by rw [hv, set5_size]; exact hsp
        unfold set5 at hv
        go_simp
        rw [← hv]
        clear hv t0 t1 t2 t3 t4 q0 q1 q2 q3 q4 hRA hRS
        have hRA := hRA2
        clear hRA2
        refine hK.out _ _ trivial (fun hH => ?_)
        clear hK K
        have hne : gA ≠ gB := Row.ne_ hRA hRB (by decide)
        obtain ⟨wf, hwf⟩ : ∃ W, W = (v5.setCell ⟨gB, 0, none⟩ (.int .i64 0)).setCell ⟨gB, 1, none⟩ (.int .i64 0) := ⟨_, rfl⟩
        obtain ⟨k0, k1, k2, k3⟩ := strings_fin hRA hRB hne hB hLB hPP hKP hBP hsp hwf
        have t0 : v5.cell? ⟨gB, 0, none⟩ = some (.int .i64 0) := hRB.cell 0
        have t1 : v5.cell? ⟨gB, 1, none⟩ = some (.int .i64 0) := hRB.cell 1
        have q0 := hRB.frozen 0
        have q1 := hRB.frozen 1
        clear hRA hRB hB hPP hKP hAP hBP hsp
        refine oneH (i := 19) rfl (by kernel_rfl) (fun K hK => ?_)
        go_simp
        rw [← hwf]
        refine hK.out _ _ trivial (fun hH => ?_)
        clear hK K hwf t0 t1 q0 q1
        refine wpAnyH_done (by kernel_rfl) ?_ _
        have HK0 := hide k0; have HK1 := hide k1; have HK2 := hide k2; have HK3 := hide k3
        clear k0 k1 k2 k3 hH hs1 hs2 e1 e2 e4 l1 l2 hSS s1 s2 HU hp1 hne hLA hLB
        have hcvf := hcv wf
        go_upto_region 6 with fail
        obtain ⟨wg, hwg⟩ : ∃ W, W = wf.alloc (.cells #[.int .u8 (c.toNat : Int)] 5) := ⟨_, rfl⟩
        have hBg : Below wf.heap.size wf wg := by rw [hwg]; exact (Below.refl _ _).alloc (Nat.le_refl _) _
        have hsg : wf.heap.size + 1 = wg.heap.size := by rw [hwg]; simp
        rw [← hwg, hsg]
        obtain ⟨w7, g7, e1, e2, hB7, z0, z1, z2, z3, z4, hR7⟩ := boxD wg 4 0 T (.slice none 0 0) (.slice none 0 0)
        rw [e1, e2]
        have hBB := hBg.trans (hB7.mono hBg.size)
        have HB7 := hide (HB3.out.trans ((HK2.out.trans (hBB.mono HK2.out.size)).mono HB3.out.size))
        have hRA7 := HK0.out.below hBB
        have hRB7 := HK1.out.below hBB
        have hP7 := HK3.out.turn (Same.of_below hBB) hBB.size
        have hr3 := (HR3.out.1.below HK2.out).below hBB
        have hf3 := (HR3.out.2.below HK2.out).below hBB
        have hP3 := HP3.out.turn (Same.of_below (HK2.out.trans (hBB.mono HK2.out.size))) (HK2.out.trans (hBB.mono HK2.out.size)).size
        have HSR := hide fun W (h : Below w7.heap.size w7 W) => And.intro (row5 (hRA7.below h)) (row5 (hR7.below h))
        have HSA := hide fun W (h : Below w7.heap.size w7 W) => (strings_same HTT.out (hP3.turn (Same.of_below h) h.size) HM1.out s1b : Calls Tryd.prog 9 #[.agg #[.int .i64 (kD r1), .int .i64 (nD r1), .string (sD r1), .slice b2 (iD r1).length q2, .slice b2' (mD r1).length q2'], .agg #[.int .i64 4, .int .i64 0, .string T, .slice none 0 0, .slice none 0 0]] W fun e w' => e = .returned (.bool true) ∧ Below W.heap.size W w')
        have HSB := hide fun W (h : Below w7.heap.size w7 W) => (strings_same HTT.out (hP7.turn (Same.of_below h) h.size) HM2.out s2b : Calls Tryd.prog 9 #[.agg #[.int .i64 (kD r2), .int .i64 (nD r2), .string (sD r2), .slice bb (iD r2).length qq, .slice bb' (mD r2).length qq'], .agg #[.int .i64 4, .int .i64 0, .string T, .slice none 0 0, .slice none 0 0]] W fun e w' => e = .returned (.bool true) ∧ Below W.heap.size W w')
        have y0 : w7.cell? ⟨gB, 0, none⟩ = some (.int .i64 0) := hRB7.cell 0
        have y1 : w7.cell? ⟨gB, 1, none⟩ = some (.int .i64 0) := hRB7.cell 1
        have x0 : w7.cell? ⟨f3, 0, none⟩ = some (.int .i64 0) := hf3.cell 0
        have x1 : w7.cell? ⟨f3, 1, none⟩ = some (.int .i64 0) := hf3.cell 1
        obtain ⟨u0, u1, u2, u3, u4⟩ := row5 hr3
        clear hwg hBg hsg e1 e2 hBB hB7 hR7 hRA7 hRB7 hP7 hr3 hf3 hP3 HK0 HK1 HK2 HK3 HR3 HP3 hcvf hcv
        go_wp2_with fail
        refine (HSA.out _ (Below.refl _ _)).mono ?_; rintro e w8 ⟨rfl, hB8⟩
        obtain ⟨⟨u0', u1', u2', u3', u4'⟩, ⟨z0', z1', z2', z3', z4'⟩⟩ := HSR.out _ hB8
        have HX := hide (HSB.out _ hB8)
        have HB8 := hide (HB7.out.trans (hB8.mono HB7.out.size))
        clear u0 u1 u2 u3 u4 z0 z1 z2 z3 z4 y0 y1 x0 x1 hB8 HSA HSB HSR HB7
        go_wp2_with fail
        refine HX.out.mono ?_; rintro e w9 ⟨rfl, hB9⟩
        have HB9 := hide (HB8.out.trans (hB9.mono HB8.out.size))
        have HY := hide (HE.out _ HB9.out)
        clear hB9 HX HB8 u0' u1' u2' u3' u4' z0' z1' z2' z3' z4'
        go_wp2_with fail
        refine HY.out.mono ?_; rintro e w10 ⟨rfl, hB10⟩
        have HB10 := hide (HB9.out.trans (hB10.mono HB9.out.size))
        go_wp2_with fail
        go_ret
        exact ⟨rfl, HB10.out⟩
    · skip
      go_simp
      obtain ⟨v2, hv⟩ : ∃ W, W = v1.alloc (.cells #[.int .i64 0, .int .i64 0] 30) := ⟨_, rfl⟩
      obtain ⟨gB, hg⟩ : ∃ g, g = v1.heap.size := ⟨_, rfl⟩
      rw [← hv, ← hg]
      have hRB : Row v2 gB 30 [.int .i64 0, .int .i64 0] := by rw [hv, hg]; exact Row.new v1 _ _
      have hb2 : Below v1.heap.size v1 v2 := by rw [hv]; exact (Below.refl _ _).alloc (Nat.le_refl _) _
      have hLB : w3.heap.size ≤ gB := by rw [hg]; exact hB.size
      have hB := hB.trans (hb2.mono hB.size)
      have hRA := hRA.below hb2
      clear hv hg hb2
      refine hK.out _ _ trivial (fun hH => ?_)
      clear hK K
      refine oneH (i := 8) rfl (by kernel_rfl) (fun K hK => ?_)
      go_simp
      obtain ⟨v3, hv⟩ : ∃ W, W = v2.alloc (.cells #[.int .u8 ((hexN hi).toNat : Int), .int .u8 ((hexU lo).toNat : Int)] 5) := ⟨_, rfl⟩
      obtain ⟨gS, hg⟩ : ∃ g, g = v2.heap.size := ⟨_, rfl⟩
      rw [← hv, ← hg]
      have hRS : Row v3 gS 5 (byL [hexN hi, hexU lo]) := by rw [hv, hg]; exact Row.new v2 _ _
      have hb3 : Below v2.heap.size v2 v3 := by rw [hv]; exact (Below.refl _ _).alloc (Nat.le_refl _) _
      have hB := hB.trans (hb3.mono hB.size)
      have hRA := hRA.below hb3
      have hRB := hRB.below hb3
      clear hv hg hb3
      refine hK.out _ _ trivial (fun hH => ?_)
      clear hK K
      refine oneH (i := 9) rfl (by kernel_rfl) (fun K hK => ?_)
      have hcv2 := RowY.str hRS 2 2 (Nat.le_refl _)
      rw [show [hexN hi, hexU lo].take 2 = [hexN hi, hexU lo] from rfl] at hcv2
      go_simp
      clear hcv2
      refine hK.out _ _ trivial (fun hH => ?_)
      clear hK K
      refine takeH (i := 10) (v := ?_) rfl (by kernel_rfl) (by kernel_rfl) (by kernel_rfl) (fun _ _ _ h => h) (Or.inl ⟨by rfl, ?_⟩) hH ?_
      rotate_left
      · (intro w hSw; (try dsimp only at hSw); go_simp; try with_reducible rfl)
      simp only [Act.put, List.setIfInBounds_toArray, List.set_cons_zero, List.set_cons_succ]
      refine takeH (i := 11) (v := ?_) rfl (by kernel_rfl) (by kernel_rfl) (by kernel_rfl) (fun _ _ _ h => h) (Or.inl ⟨by rfl, ?_⟩) hH ?_
      rotate_left
      · (intro w hSw; (try dsimp only at hSw); go_simp; try with_reducible rfl)
      simp only [Act.put, List.setIfInBounds_toArray, List.set_cons_zero, List.set_cons_succ]
      refine oneH (i := 12) rfl (by kernel_rfl) (fun K hK => ?_)
      have hqA := hRA.lt
      have hqB := hRB.lt
      go_simp
      go_at_call 8
      refine (HP2.out v3).mono ?_; rintro e v4 ⟨bb, qq, bb', qq', rfl, hPP, hb4⟩
      have hB := hB.trans (hb4.mono hB.size)
      have hRA := hRA.below hb4
      have hRB := hRB.below hb4
      have hRS := hRS.below hb4
      obtain ⟨lp, hlp⟩ : ∃ l, l = v3.heap.size := ⟨_, rfl⟩
      rw [← hlp] at hPP
      obtain ⟨vp, hvp⟩ : ∃ W, W = v4 := ⟨_, rfl⟩
      rw [← hvp] at hPP
      have hKP : ∀ j, lp ≤ j → j < vp.heap.size → v4.heap[j]? = vp.heap[j]? := fun j _ _ => by rw [hvp]
      have hsp : vp.heap.size ≤ v4.heap.size := by rw [hvp]; exact Nat.le_refl _
      have hAP : gA < lp ∨ vp.heap.size ≤ gA := .inl (by rw [hlp]; exact hqA)
      have hBP : gB < lp ∨ vp.heap.size ≤ gB := .inl (by rw [hlp]; exact hqB)
      clear hb4 hlp hvp hqA hqB
      refine hK.out _ _ trivial (fun hH => ?_)
      clear hK K
      refine takeH (i := 13) (v := ?_) rfl (by kernel_rfl) (by kernel_rfl) (by kernel_rfl) (fun _ _ _ h => h) (Or.inl ⟨by rfl, ?_⟩) hH ?_
      rotate_left
      · (intro w hSw; (try dsimp only at hSw); go_simp; try with_reducible rfl)
      simp only [Act.put, List.setIfInBounds_toArray, List.set_cons_zero, List.set_cons_succ]
      refine takeH (i := 14) (v := ?_) rfl (by kernel_rfl) (by kernel_rfl) (by kernel_rfl) (fun _ _ _ h => h) (Or.inl ⟨by rfl, ?_⟩) hH ?_
      rotate_left
      · (intro w hSw; (try dsimp only at hSw); go_simp; try with_reducible rfl)
      simp only [Act.put, List.setIfInBounds_toArray, List.set_cons_zero, List.set_cons_succ]
      refine takeH (i := 15) (v := ?_) rfl (by kernel_rfl) (by kernel_rfl) (by kernel_rfl) (fun _ _ _ h => h) (Or.inl ⟨by rfl, ?_⟩) hH ?_
      rotate_left
      · (intro w hSw; (try dsimp only at hSw); go_simp; try with_reducible rfl)
      simp only [Act.put, List.setIfInBounds_toArray, List.set_cons_zero, List.set_cons_succ]
      refine oneH (i := 18) rfl (by kernel_rfl) (fun K hK => ?_)
      obtain ⟨v5, hv⟩ : ∃ W, W = set5 v4 gA (.int .i64 (kD r2)) (.int .i64 (nD r2)) (.string (sD r2)) (.slice bb (iD r2).length qq) (.slice bb' (mD r2).length qq') := ⟨_, rfl⟩
      obtain ⟨t0, t1, t2, t3, t4⟩ := row5 hRA
      have q0 := hRA.frozen 0
      have q1 := hRA.frozen 1
      have q2 := hRA.frozen 2
      have q3 := hRA.frozen 3
      have q4 := hRA.frozen 4
      have hRA2 : Row v5 gA 27 [.int .i64 (kD r2), .int .i64 (nD r2), .string (sD r2), .slice bb (iD r2).length qq, .slice bb' (mD r2).length qq'] := by rw [hv]; exact row_set5 hRA _ _ _ _ _
      have hRB : Row v5 gB 30 [.int .i64 0, .int .i64 0] := by rw [hv]; exact row_far5 hRB (Ne.symm (Row.ne_ hRA hRB (by decide))) _ _ _ _ _
      have hB : Below w3.heap.size w3 v5 := by rw [hv]; exact below_set5 hB hLA _ _ _ _ _
      have hKP : ∀ j, lp ≤ j → j < vp.heap.size → v5.heap[j]? = vp.heap[j]? := fun j j1 j2 => by rw [hv, set5_heap _ _ _ _ _ _ _ (by omega)]; exact hKP j j1 j2
      have hsp : vp.heap.size ≤ v5.heap.size := by rw [hv, set5_size]; exact hsp
      unfold set5 at hv
      go_simp
      rw [← hv]
      clear hv t0 t1 t2 t3 t4 q0 q1 q2 q3 q4 hRA hRS
      have hRA := hRA2
      clear hRA2
      refine hK.out _ _ trivial (fun hH => ?_)
      clear hK K
      have hne : gA ≠ gB := Row.ne_ hRA hRB (by decide)
      obtain ⟨wf, hwf⟩ : ∃ W, W = (v5.setCell ⟨gB, 0, none⟩ (.int .i64 0)).setCell ⟨gB, 1, none⟩ (.int .i64 0) := ⟨_, rfl⟩
      obtain ⟨k0, k1, k2, k3⟩ := strings_fin hRA hRB hne hB hLB hPP hKP hBP hsp hwf
      have t0 : v5.cell? ⟨gB, 0, none⟩ = some (.int .i64 0) := hRB.cell 0
      have t1 : v5.cell? ⟨gB, 1, none⟩ = some (.int .i64 0) := hRB.cell 1
      have q0 := hRB.frozen 0
      have q1 := hRB.frozen 1
      clear hRA hRB hB hPP hKP hAP hBP hsp
      refine oneH (i := 19) rfl (by kernel_rfl) (fun K hK => ?_)
      go_simp
      rw [← hwf]
      refine hK.out _ _ trivial (fun hH => ?_)
      clear hK K hwf t0 t1 q0 q1
      refine wpAnyH_done (by kernel_rfl) ?_ _
      have HK0 := hide k0; have HK1 := hide k1; have HK2 := hide k2; have HK3 := hide k3
      clear k0 k1 k2 k3 hH hs1 hs2 e1 e2 e4 l1 l2 hSS s1 s2 HU hp1 hne hLA hLB
      have hcvf := hcv wf
      go_upto_region 6 with fail
      obtain ⟨wg, hwg⟩ : ∃ W, W = wf.alloc (.cells #[.int .u8 (c.toNat : Int)] 5) := ⟨_, rfl⟩
      have hBg : Below wf.heap.size wf wg := by rw [hwg]; exact (Below.refl _ _).alloc (Nat.le_refl _) _
      have hsg : wf.heap.size + 1 = wg.heap.size := by rw [hwg]; simp
      rw [← hwg, hsg]
      obtain ⟨w7, g7, e1, e2, hB7, z0, z1, z2, z3, z4, hR7⟩ := boxD wg 4 0 T (.slice none 0 0) (.slice none 0 0)
      rw [e1, e2]
      have hBB := hBg.trans (hB7.mono hBg.size)
      have HB7 := hide (HB3.out.trans ((HK2.out.trans (hBB.mono HK2.out.size)).mono HB3.out.size))
      have hRA7 := HK0.out.below hBB
      have hRB7 := HK1.out.below hBB
      have hP7 := HK3.out.turn (Same.of_below hBB) hBB.size
      have hr3 := (HR3.out.1.below HK2.out).below hBB
      have hf3 := (HR3.out.2.below HK2.out).below hBB
      have hP3 := HP3.out.turn (Same.of_below (HK2.out.trans (hBB.mono HK2.out.size))) (HK2.out.trans (hBB.mono HK2.out.size)).size
      have HSR := hide fun W (h : Below w7.heap.size w7 W) => And.intro (row5 (hRA7.below h)) (row5 (hR7.below h))
      have HSA := hide fun W (h : Below w7.heap.size w7 W) => (strings_same HTT.out (hP3.turn (Same.of_below h) h.size) HM1.out s1b : Calls Tryd.prog 9 #[.agg #[.int .i64 (kD r1), .int .i64 (nD r1), .string (sD r1), .slice b2 (iD r1).length q2, .slice b2' (mD r1).length q2'], .agg #[.int .i64 4, .int .i64 0, .string T, .slice none 0 0, .slice none 0 0]] W fun e w' => e = .returned (.bool true) ∧ Below W.heap.size W w')
      have HSB := hide fun W (h : Below w7.heap.size w7 W) => (strings_same HTT.out (hP7.turn (Same.of_below h) h.size) HM2.out s2b : Calls Tryd.prog 9 #[.agg #[.int .i64 (kD r2), .int .i64 (nD r2), .string (sD r2), .slice bb (iD r2).length qq, .slice bb' (mD r2).length qq'], .agg #[.int .i64 4, .int .i64 0, .string T, .slice none 0 0, .slice none 0 0]] W fun e w' => e = .returned (.bool true) ∧ Below W.heap.size W w')
      have y0 : w7.cell? ⟨gB, 0, none⟩ = some (.int .i64 0) := hRB7.cell 0
      have y1 : w7.cell? ⟨gB, 1, none⟩ = some (.int .i64 0) := hRB7.cell 1
      have x0 : w7.cell? ⟨f3, 0, none⟩ = some (.int .i64 0) := hf3.cell 0
      have x1 : w7.cell? ⟨f3, 1, none⟩ = some (.int .i64 0) := hf3.cell 1
      obtain ⟨u0, u1, u2, u3, u4⟩ := row5 hr3
      clear hwg hBg hsg e1 e2 hBB hB7 hR7 hRA7 hRB7 hP7 hr3 hf3 hP3 HK0 HK1 HK2 HK3 HR3 HP3 hcvf hcv
      go_wp2_with fail
      refine (HSA.out _ (Below.refl _ _)).mono ?_; rintro e w8 ⟨rfl, hB8⟩
      obtain ⟨⟨u0', u1', u2', u3', u4'⟩, ⟨z0', z1', z2', z3', z4'⟩⟩ := HSR.out _ hB8
      have HX := hide (HSB.out _ hB8)
      have HB8 := hide (HB7.out.trans (hB8.mono HB7.out.size))
      clear u0 u1 u2 u3 u4 z0 z1 z2 z3 z4 y0 y1 x0 x1 hB8 HSA HSB HSR HB7
      go_wp2_with fail
      refine HX.out.mono ?_; rintro e w9 ⟨rfl, hB9⟩
      have HB9 := hide (HB8.out.trans (hB9.mono HB8.out.size))
      have HY := hide (HE.out _ HB9.out)
      clear hB9 HX HB8 u0' u1' u2' u3' u4' z0' z1' z2' z3' z4'
      go_wp2_with fail
      refine HY.out.mono ?_; rintro e w10 ⟨rfl, hB10⟩
      have HB10 := hide (HB9.out.trans (hB10.mono HB9.out.size))
      go_wp2_with fail
      go_ret
      exact ⟨rfl, HB10.out⟩
  · skip
    go_simp
    obtain ⟨v1, hv⟩ : ∃ W, W = v0.alloc (.cells #[.int .i64 0, .int .i64 0] 30) := ⟨_, rfl⟩
    obtain ⟨gB, hg⟩ : ∃ g, g = v0.heap.size := ⟨_, rfl⟩
    rw [← hv, ← hg]
    have hRB : Row v1 gB 30 [.int .i64 0, .int .i64 0] := by rw [hv, hg]; exact Row.new v0 _ _
    have hb1 : Below v0.heap.size v0 v1 := by rw [hv]; exact (Below.refl _ _).alloc (Nat.le_refl _) _
    have hLB : w3.heap.size ≤ gB := by rw [hg]; exact hB.size
    have hB := hB.trans (hb1.mono hB.size)
    clear hv hg hb1
    refine hK.out _ _ trivial (fun hH => ?_)
    clear hK K
    refine twoH (i := 8) (j := 16) rfl rfl (by kernel_rfl) (fun K hK => ?_) (fun K hK => ?_)
    · skip
      go_simp
      obtain ⟨v2, hv⟩ : ∃ W, W = v1.alloc (.cells #[.int .u8 ((hexN hi).toNat : Int), .int .u8 ((hexU lo).toNat : Int)] 5) := ⟨_, rfl⟩
      obtain ⟨gS, hg⟩ : ∃ g, g = v1.heap.size := ⟨_, rfl⟩
      rw [← hv, ← hg]
      have hRS : Row v2 gS 5 (byL [hexN hi, hexU lo]) := by rw [hv, hg]; exact Row.new v1 _ _
      have hb2 : Below v1.heap.size v1 v2 := by rw [hv]; exact (Below.refl _ _).alloc (Nat.le_refl _) _
      have hB := hB.trans (hb2.mono hB.size)
      have hRB := hRB.below hb2
      clear hv hg hb2
      refine hK.out _ _ trivial (fun hH => ?_)
      clear hK K
      refine twoH (i := 9) (j := 16) rfl rfl (by kernel_rfl) (fun K hK => ?_) (fun K hK => ?_)
      · skip
        have hcv2 := RowY.str hRS 2 2 (Nat.le_refl _)
        rw [show [hexN hi, hexU lo].take 2 = [hexN hi, hexU lo] from rfl] at hcv2
        go_simp
        clear hcv2
        refine hK.out _ _ trivial (fun hH => ?_)
        clear hK K
        refine takeH (i := 10) (v := ?_) rfl (by kernel_rfl) (by kernel_rfl) (by kernel_rfl) (fun _ _ _ h => h) (Or.inl ⟨by rfl, ?_⟩) hH ?_
        rotate_left
        · (intro w hSw; (try dsimp only at hSw); go_simp; try with_reducible rfl)
        simp only [Act.put, List.setIfInBounds_toArray, List.set_cons_zero, List.set_cons_succ]
        refine takeH (i := 11) (v := ?_) rfl (by kernel_rfl) (by kernel_rfl) (by kernel_rfl) (fun _ _ _ h => h) (Or.inl ⟨by rfl, ?_⟩) hH ?_
        rotate_left
        · (intro w hSw; (try dsimp only at hSw); go_simp; try with_reducible rfl)
        simp only [Act.put, List.setIfInBounds_toArray, List.set_cons_zero, List.set_cons_succ]
        refine twoH (i := 12) (j := 16) rfl rfl (by kernel_rfl) (fun K hK => ?_) (fun K hK => ?_)
        · skip
          have hqB := hRB.lt
          go_simp
          go_at_call 8
          refine (HP2.out v2).mono ?_; rintro e v3 ⟨bb, qq, bb', qq', rfl, hPP, hb3⟩
          have hB := hB.trans (hb3.mono hB.size)
          have hRB := hRB.below hb3
          have hRS := hRS.below hb3
          obtain ⟨lp, hlp⟩ : ∃ l, l = v2.heap.size := ⟨_, rfl⟩
          rw [← hlp] at hPP
          obtain ⟨vp, hvp⟩ : ∃ W, W = v3 := ⟨_, rfl⟩
          rw [← hvp] at hPP
          have hKP : ∀ j, lp ≤ j → j < vp.heap.size → v3.heap[j]? = vp.heap[j]? := fun j _ _ => by rw [hvp]
          have hsp : vp.heap.size ≤ v3.heap.size := by rw [hvp]; exact Nat.le_refl _
          have hBP : gB < lp ∨ vp.heap.size ≤ gB := .inl (by rw [hlp]; exact hqB)
          clear hb3 hlp hvp hqB
          refine hK.out _ _ trivial (fun hH => ?_)
          clear hK K
          refine takeH (i := 13) (v := ?_) rfl (by kernel_rfl) (by kernel_rfl) (by kernel_rfl) (fun _ _ _ h => h) (Or.inl ⟨by rfl, ?_⟩) hH ?_
          rotate_left
          · (intro w hSw; (try dsimp only at hSw); go_simp; try with_reducible rfl)
          simp only [Act.put, List.setIfInBounds_toArray, List.set_cons_zero, List.set_cons_succ]
          refine takeH (i := 14) (v := ?_) rfl (by kernel_rfl) (by kernel_rfl) (by kernel_rfl) (fun _ _ _ h => h) (Or.inl ⟨by rfl, ?_⟩) hH ?_
          rotate_left
          · (intro w hSw; (try dsimp only at hSw); go_simp; try with_reducible rfl)
          simp only [Act.put, List.setIfInBounds_toArray, List.set_cons_zero, List.set_cons_succ]
          refine takeH (i := 15) (v := ?_) rfl (by kernel_rfl) (by kernel_rfl) (by kernel_rfl) (fun _ _ _ h => h) (Or.inl ⟨by rfl, ?_⟩) hH ?_
          rotate_left
          · (intro w hSw; (try dsimp only at hSw); go_simp; try with_reducible rfl)
          simp only [Act.put, List.setIfInBounds_toArray, List.set_cons_zero, List.set_cons_succ]
          refine oneH (i := 16) rfl (by kernel_rfl) (fun K hK => ?_)
          go_simp
          obtain ⟨v4, hv⟩ : ∃ W, W = v3.alloc (.cells #[.int .i64 0, .int .i64 0, .string ⟨#[]⟩, .slice none 0 0, .slice none 0 0] 27) := ⟨_, rfl⟩
          obtain ⟨gA, hg⟩ : ∃ g, g = v3.heap.size := ⟨_, rfl⟩
          rw [← hv, ← hg]
          have hRA : Row v4 gA 27 [.int .i64 0, .int .i64 0, .string ⟨#[]⟩, .slice none 0 0, .slice none 0 0] := by rw [hv, hg]; exact Row.new v3 _ _
          have hb4 : Below v3.heap.size v3 v4 := by rw [hv]; exact (Below.refl _ _).alloc (Nat.le_refl _) _
          have hLA : w3.heap.size ≤ gA := by rw [hg]; exact hB.size
          have hAP : gA < lp ∨ vp.heap.size ≤ gA := .inr (by rw [hg]; exact hsp)
          have hB := hB.trans (hb4.mono hB.size)
          have hRB := hRB.below hb4
          have hRS := hRS.below hb4
          have hKP := fun j (j1 : lp ≤ j) (j2 : j < vp.heap.size) => (hb4.block j (Nat.lt_of_lt_of_le j2 hsp)).trans (hKP j j1 j2)
          have hsp := Nat.le_trans hsp hb4.size
          clear hv hg hb4
          refine hK.out _ _ trivial (fun hH => ?_)
          clear hK K
          refine oneH (i := 18) rfl (by kernel_rfl) (fun K hK => ?_)
          obtain ⟨v5, hv⟩ : ∃ W, W = set5 v4 gA (.int .i64 (kD r2)) (.int .i64 (nD r2)) (.string (sD r2)) (.slice bb (iD r2).length qq) (.slice bb' (mD r2).length qq') := ⟨_, rfl⟩
          obtain ⟨t0, t1, t2, t3, t4⟩ := row5 hRA
          have q0 := hRA.frozen 0
          have q1 := hRA.frozen 1
          have q2 := hRA.frozen 2
          have q3 := hRA.frozen 3
          have q4 := hRA.frozen 4
          have hRA2 : Row v5 gA 27 [.int .i64 (kD r2), .int .i64 (nD r2), .string (sD r2), .slice bb (iD r2).length qq, .slice bb' (mD r2).length qq'] := by rw [hv]; exact row_set5 hRA _ _ _ _ _
          have hRB : Row v5 gB 30 [.int .i64 0, .int .i64 0] := by rw [hv]; exact row_far5 hRB (Ne.symm (Row.ne_ hRA hRB (by decide))) _ _ _ _ _
          have hB : Below w3.heap.size w3 v5 := by rw [hv]; exact below_set5 hB hLA _ _ _ _ _
          have hKP : ∀ j, lp ≤ j → j < vp.heap.size → v5.heap[j]? = vp.heap[j]? := fun j j1 j2 => by rw [hv, set5_heap _ _ _ _ _ _ _ (by omega)]; exact hKP j j1 j2
          have hsp : vp.heap.size ≤ v5.heap.size := by rw [hv, set5_size]; exact hsp
          unfold set5 at hv
          go_simp
          rw [← hv]
          clear hv t0 t1 t2 t3 t4 q0 q1 q2 q3 q4 hRA hRS
          have hRA := hRA2
          clear hRA2
          refine hK.out _ _ trivial (fun hH => ?_)
          clear hK K
          have hne : gA ≠ gB := Row.ne_ hRA hRB (by decide)
          obtain ⟨wf, hwf⟩ : ∃ W, W = (v5.setCell ⟨gB, 0, none⟩ (.int .i64 0)).setCell ⟨gB, 1, none⟩ (.int .i64 0) := ⟨_, rfl⟩
          obtain ⟨k0, k1, k2, k3⟩ := strings_fin hRA hRB hne hB hLB hPP hKP hBP hsp hwf
          have t0 : v5.cell? ⟨gB, 0, none⟩ = some (.int .i64 0) := hRB.cell 0
          have t1 : v5.cell? ⟨gB, 1, none⟩ = some (.int .i64 0) := hRB.cell 1
          have q0 := hRB.frozen 0
          have q1 := hRB.frozen 1
          clear hRA hRB hB hPP hKP hAP hBP hsp
          refine oneH (i := 19) rfl (by kernel_rfl) (fun K hK => ?_)
          go_simp
          rw [← hwf]
          refine hK.out _ _ trivial (fun hH => ?_)
          clear hK K hwf t0 t1 q0 q1
          refine wpAnyH_done (by kernel_rfl) ?_ _
          have HK0 := hide k0; have HK1 := hide k1; have HK2 := hide k2; have HK3 := hide k3
          clear k0 k1 k2 k3 hH hs1 hs2 e1 e2 e4 l1 l2 hSS s1 s2 HU hp1 hne hLA hLB
          have hcvf := hcv wf
          go_upto_region 6 with fail
          obtain ⟨wg, hwg⟩ : ∃ W, W = wf.alloc (.cells #[.int .u8 (c.toNat : Int)] 5) := ⟨_, rfl⟩
          have hBg : Below wf.heap.size wf wg := by rw [hwg]; exact (Below.refl _ _).alloc (Nat.le_refl _) _
          have hsg : wf.heap.size + 1 = wg.heap.size := by rw [hwg]; simp
          rw [← hwg, hsg]
          obtain ⟨w7, g7, e1, e2, hB7, z0, z1, z2, z3, z4, hR7⟩ := boxD wg 4 0 T (.slice none 0 0) (.slice none 0 0)
          rw [e1, e2]
          have hBB := hBg.trans (hB7.mono hBg.size)
          have HB7 := hide (HB3.out.trans ((HK2.out.trans (hBB.mono HK2.out.size)).mono HB3.out.size))
          have hRA7 := HK0.out.below hBB
          have hRB7 := HK1.out.below hBB
          have hP7 := HK3.out.turn (Same.of_below hBB) hBB.size
          have hr3 := (HR3.out.1.below HK2.out).below hBB
          have hf3 := (HR3.out.2.below HK2.out).below hBB
          have hP3 := HP3.out.turn (Same.of_below (HK2.out.trans (hBB.mono HK2.out.size))) (HK2.out.trans (hBB.mono HK2.out.size)).size
          have HSR := hide fun W (h : Below w7.heap.size w7 W) => And.intro (row5 (hRA7.below h)) (row5 (hR7.below h))
          have HSA := hide fun W (h : Below w7.heap.size w7 W) => (strings_same HTT.out (hP3.turn (Same.of_below h) h.size) HM1.out s1b : Calls Tryd.prog 9 #[.agg #[.int .i64 (kD r1), .int .i64 (nD r1), .string (sD r1), .slice b2 (iD r1).length q2, .slice b2' (mD r1).length q2'], .agg #[.int .i64 4, .int .i64 0, .string T, .slice none 0 0, .slice none 0 0]] W fun e w' => e = .returned (.bool true) ∧ Below W.heap.size W w')
          have HSB := hide fun W (h : Below w7.heap.size w7 W) => (strings_same HTT.out (hP7.turn (Same.of_below h) h.size) HM2.out s2b : Calls Tryd.prog 9 #[.agg #[.int .i64 (kD r2), .int .i64 (nD r2), .string (sD r2), .slice bb (iD r2).length qq, .slice bb' (mD r2).length qq'], .agg #[.int .i64 4, .int .i64 0, .string T, .slice none 0 0, .slice none 0 0]] W fun e w' => e = .returned (.bool true) ∧ Below W.heap.size W w')
          have y0 : w7.cell? ⟨gB, 0, none⟩ = some (.int .i64 0) := hRB7.cell 0
          have y1 : w7.cell? ⟨gB, 1, none⟩ = some (.int .i64 0) := hRB7.cell 1
          have x0 : w7.cell? ⟨f3, 0, none⟩ = some (.int .i64 0) := hf3.cell 0
          have x1 : w7.cell? ⟨f3, 1, none⟩ = some (.int .i64 0) := hf3.cell 1
          obtain ⟨u0, u1, u2, u3, u4⟩ := row5 hr3
          clear hwg hBg hsg e1 e2 hBB hB7 hR7 hRA7 hRB7 hP7 hr3 hf3 hP3 HK0 HK1 HK2 HK3 HR3 HP3 hcvf hcv
          go_wp2_with fail
          refine (HSA.out _ (Below.refl _ _)).mono ?_; rintro e w8 ⟨rfl, hB8⟩
          obtain ⟨⟨u0', u1', u2', u3', u4'⟩, ⟨z0', z1', z2', z3', z4'⟩⟩ := HSR.out _ hB8
          have HX := hide (HSB.out _ hB8)
          have HB8 := hide (HB7.out.trans (hB8.mono HB7.out.size))
          clear u0 u1 u2 u3 u4 z0 z1 z2 z3 z4 y0 y1 x0 x1 hB8 HSA HSB HSR HB7
          go_wp2_with fail
          refine HX.out.mono ?_; rintro e w9 ⟨rfl, hB9⟩
          have HB9 := hide (HB8.out.trans (hB9.mono HB8.out.size))
          have HY := hide (HE.out _ HB9.out)
          clear hB9 HX HB8 u0' u1' u2' u3' u4' z0' z1' z2' z3' z4'
          go_wp2_with fail
          refine HY.out.mono ?_; rintro e w10 ⟨rfl, hB10⟩
          have HB10 := hide (HB9.out.trans (hB10.mono HB9.out.size))
          go_wp2_with fail
          go_ret
          exact ⟨rfl, HB10.out⟩
        · skip
          go_simp
          obtain ⟨v3, hv⟩ : ∃ W, W = v2.alloc (.cells #[.int .i64 0, .int .i64 0, .string ⟨#[]⟩, .slice none 0 0, .slice none 0 0] 27) := ⟨_, rfl⟩
          obtain ⟨gA, hg⟩ : ∃ g, g = v2.heap.size := ⟨_, rfl⟩
          rw [← hv, ← hg]
          have hRA : Row v3 gA 27 [.int .i64 0, .int .i64 0, .string ⟨#[]⟩, .slice none 0 0, .slice none 0 0] := by rw [hv, hg]; exact Row.new v2 _ _
          have hb3 : Below v2.heap.size v2 v3 := by rw [hv]; exact (Below.refl _ _).alloc (Nat.le_refl _) _
          have hLA : w3.heap.size ≤ gA := by rw [hg]; exact hB.size
          have hB := hB.trans (hb3.mono hB.size)
          have hRB := hRB.below hb3
          have hRS := hRS.below hb3
          clear hv hg hb3
          refine hK.out _ _ trivial (fun hH => ?_)
          clear hK K
          refine oneH (i := 12) rfl (by kernel_rfl) (fun K hK => ?_)
          have hqA := hRA.lt
          have hqB := hRB.lt
          go_simp
          go_at_call 8
          refine (HP2.out v3).mono ?_; rintro e v4 ⟨bb, qq, bb', qq', rfl, hPP, hb4⟩
          have hB := hB.trans (hb4.mono hB.size)
          have hRA := hRA.below hb4
          have hRB := hRB.below hb4
          have hRS := hRS.below hb4
          obtain ⟨lp, hlp⟩ : ∃ l, l = v3.heap.size := ⟨_, rfl⟩
          rw [← hlp] at hPP
          obtain ⟨vp, hvp⟩ : ∃ W, W = v4 := ⟨_, rfl⟩
          rw [← hvp] at hPP
          have hKP : ∀ j, lp ≤ j → j < vp.heap.size → v4.heap[j]? = vp.heap[j]? := fun j _ _ => by rw [hvp]
          have hsp : vp.heap.size ≤ v4.heap.size := by rw [hvp]; exact Nat.le_refl _
          have hAP : gA < lp ∨ vp.heap.size ≤ gA := .inl (by rw [hlp]; exact hqA)
          have hBP : gB < lp ∨ vp.heap.size ≤ gB := .inl (by rw [hlp]; exact hqB)
          clear hb4 hlp hvp hqA hqB
          refine hK.out _ _ trivial (fun hH => ?_)
          clear hK K
          refine takeH (i := 13) (v := ?_) rfl (by kernel_rfl) (by kernel_rfl) (by kernel_rfl) (fun _ _ _ h => h) (Or.inl ⟨by rfl, ?_⟩) hH ?_
          rotate_left
          · (intro w hSw; (try dsimp only at hSw); go_simp; try with_reducible rfl)
          simp only [Act.put, List.setIfInBounds_toArray, List.set_cons_zero, List.set_cons_succ]
          refine takeH (i := 14) (v := ?_) rfl (by kernel_rfl) (by kernel_rfl) (by kernel_rfl) (fun _ _ _ h => h) (Or.inl ⟨by rfl, ?_⟩) hH ?_
          rotate_left
          · (intro w hSw; (try dsimp only at hSw); go_simp; try with_reducible rfl)
          simp only [Act.put, List.setIfInBounds_toArray, List.set_cons_zero, List.set_cons_succ]
          refine takeH (i := 15) (v := ?_) rfl (by kernel_rfl) (by kernel_rfl) (by kernel_rfl) (fun _ _ _ h => h) (Or.inl ⟨by rfl, ?_⟩) hH ?_
          rotate_left
          · (intro w hSw; (try dsimp only at hSw); go_simp; try with_reducible rfl)
          simp only [Act.put, List.setIfInBounds_toArray, List.set_cons_zero, List.set_cons_succ]
          refine oneH (i := 18) rfl (by kernel_rfl) (fun K hK => ?_)
          obtain ⟨v5, hv⟩ : ∃ W, W = set5 v4 gA (.int .i64 (kD r2)) (.int .i64 (nD r2)) (.string (sD r2)) (.slice bb (iD r2).length qq) (.slice bb' (mD r2).length qq') := ⟨_, rfl⟩
          obtain ⟨t0, t1, t2, t3, t4⟩ := row5 hRA
          have q0 := hRA.frozen 0
          have q1 := hRA.frozen 1
          have q2 := hRA.frozen 2
          have q3 := hRA.frozen 3
          have q4 := hRA.frozen 4
          have hRA2 : Row v5 gA 27 [.int .i64 (kD r2), .int .i64 (nD r2), .string (sD r2), .slice bb (iD r2).length qq, .slice bb' (mD r2).length qq'] := by rw [hv]; exact row_set5 hRA _ _ _ _ _
          have hRB : Row v5 gB 30 [.int .i64 0, .int .i64 0] := by rw [hv]; exact row_far5 hRB (Ne.symm (Row.ne_ hRA hRB (by decide))) _ _ _ _ _
          have hB : Below w3.heap.size w3 v5 := by rw [hv]; exact below_set5 hB hLA _ _ _ _ _
          have hKP : ∀ j, lp ≤ j → j < vp.heap.size → v5.heap[j]? = vp.heap[j]? := fun j j1 j2 => by rw [hv, set5_heap _ _ _ _ _ _ _ (by omega)]; exact hKP j j1 j2
          have hsp : vp.heap.size ≤ v5.heap.size := by rw [hv, set5_size]; exact hsp
          unfold set5 at hv
          go_simp
          rw [← hv]
          clear hv t0 t1 t2 t3 t4 q0 q1 q2 q3 q4 hRA hRS
          have hRA := hRA2
          clear hRA2
          refine hK.out _ _ trivial (fun hH => ?_)
          clear hK K
          have hne : gA ≠ gB := Row.ne_ hRA hRB (by decide)
          obtain ⟨wf, hwf⟩ : ∃ W, W = (v5.setCell ⟨gB, 0, none⟩ (.int .i64 0)).setCell ⟨gB, 1, none⟩ (.int .i64 0) := ⟨_, rfl⟩
          obtain ⟨k0, k1, k2, k3⟩ := strings_fin hRA hRB hne hB hLB hPP hKP hBP hsp hwf
          have t0 : v5.cell? ⟨gB, 0, none⟩ = some (.int .i64 0) := hRB.cell 0
          have t1 : v5.cell? ⟨gB, 1, none⟩ = some (.int .i64 0) := hRB.cell 1
          have q0 := hRB.frozen 0
          have q1 := hRB.frozen 1
          clear hRA hRB hB hPP hKP hAP hBP hsp
          refine oneH (i := 19) rfl (by kernel_rfl) (fun K hK => ?_)
          go_simp
          rw [← hwf]
          refine hK.out _ _ trivial (fun hH => ?_)
          clear hK K hwf t0 t1 q0 q1
          refine wpAnyH_done (by kernel_rfl) ?_ _
          have HK0 := hide k0; have HK1 := hide k1; have HK2 := hide k2; have HK3 := hide k3
          clear k0 k1 k2 k3 hH hs1 hs2 e1 e2 e4 l1 l2 hSS s1 s2 HU hp1 hne hLA hLB
          have hcvf := hcv wf
          go_upto_region 6 with fail
          obtain ⟨wg, hwg⟩ : ∃ W, W = wf.alloc (.cells #[.int .u8 (c.toNat : Int)] 5) := ⟨_, rfl⟩
          have hBg : Below wf.heap.size wf wg := by rw [hwg]; exact (Below.refl _ _).alloc (Nat.le_refl _) _
          have hsg : wf.heap.size + 1 = wg.heap.size := by rw [hwg]; simp
          rw [← hwg, hsg]
          obtain ⟨w7, g7, e1, e2, hB7, z0, z1, z2, z3, z4, hR7⟩ := boxD wg 4 0 T (.slice none 0 0) (.slice none 0 0)
          rw [e1, e2]
          have hBB := hBg.trans (hB7.mono hBg.size)
          have HB7 := hide (HB3.out.trans ((HK2.out.trans (hBB.mono HK2.out.size)).mono HB3.out.size))
          have hRA7 := HK0.out.below hBB
          have hRB7 := HK1.out.below hBB
          have hP7 := HK3.out.turn (Same.of_below hBB) hBB.size
          have hr3 := (HR3.out.1.below HK2.out).below hBB
          have hf3 := (HR3.out.2.below HK2.out).below hBB
          have hP3 := HP3.out.turn (Same.of_below (HK2.out.trans (hBB.mono HK2.out.size))) (HK2.out.trans (hBB.mono HK2.out.size)).size
          have HSR := hide fun W (h : Below w7.heap.size w7 W) => And.intro (row5 (hRA7.below h)) (row5 (hR7.below h))
          have HSA := hide fun W (h : Below w7.heap.size w7 W) => (strings_same HTT.out (hP3.turn (Same.of_below h) h.size) HM1.out s1b : Calls Tryd.prog 9 #[.agg #[.int .i64 (kD r1), .int .i64 (nD r1), .string (sD r1), .slice b2 (iD r1).length q2, .slice b2' (mD r1).length q2'], .agg #[.int .i64 4, .int .i64 0, .string T, .slice none 0 0, .slice none 0 0]] W fun e w' => e = .returned (.bool true) ∧ Below W.heap.size W w')
          have HSB := hide fun W (h : Below w7.heap.size w7 W) => (strings_same HTT.out (hP7.turn (Same.of_below h) h.size) HM2.out s2b : Calls Tryd.prog 9 #[.agg #[.int .i64 (kD r2), .int .i64 (nD r2), .string (sD r2), .slice bb (iD r2).length qq, .slice bb' (mD r2).length qq'], .agg #[.int .i64 4, .int .i64 0, .string T, .slice none 0 0, .slice none 0 0]] W fun e w' => e = .returned (.bool true) ∧ Below W.heap.size W w')
          have y0 : w7.cell? ⟨gB, 0, none⟩ = some (.int .i64 0) := hRB7.cell 0
          have y1 : w7.cell? ⟨gB, 1, none⟩ = some (.int .i64 0) := hRB7.cell 1
          have x0 : w7.cell? ⟨f3, 0, none⟩ = some (.int .i64 0) := hf3.cell 0
          have x1 : w7.cell? ⟨f3, 1, none⟩ = some (.int .i64 0) := hf3.cell 1
          obtain ⟨u0, u1, u2, u3, u4⟩ := row5 hr3
          clear hwg hBg hsg e1 e2 hBB hB7 hR7 hRA7 hRB7 hP7 hr3 hf3 hP3 HK0 HK1 HK2 HK3 HR3 HP3 hcvf hcv
          go_wp2_with fail
          refine (HSA.out _ (Below.refl _ _)).mono ?_; rintro e w8 ⟨rfl, hB8⟩
          obtain ⟨⟨u0', u1', u2', u3', u4'⟩, ⟨z0', z1', z2', z3', z4'⟩⟩ := HSR.out _ hB8
          have HX := hide (HSB.out _ hB8)
          have HB8 := hide (HB7.out.trans (hB8.mono HB7.out.size))
          clear u0 u1 u2 u3 u4 z0 z1 z2 z3 z4 y0 y1 x0 x1 hB8 HSA HSB HSR HB7
          go_wp2_with fail
          refine HX.out.mono ?_; rintro e w9 ⟨rfl, hB9⟩
          have HB9 := hide (HB8.out.trans (hB9.mono HB8.out.size))
          have HY := hide (HE.out _ HB9.out)
          clear hB9 HX HB8 u0' u1' u2' u3' u4' z0' z1' z2' z3' z4'
          go_wp2_with fail
          refine HY.out.mono ?_; rintro e w10 ⟨rfl, hB10⟩
          have HB10 := hide (HB9.out.trans (hB10.mono HB9.out.size))
          go_wp2_with fail
          go_ret
          exact ⟨rfl, HB10.out⟩
      · skip
        go_simp
        obtain ⟨v3, hv⟩ : ∃ W, W = v2.alloc (.cells #[.int .i64 0, .int .i64 0, .string ⟨#[]⟩, .slice none 0 0, .slice none 0 0] 27) := ⟨_, rfl⟩
        obtain ⟨gA, hg⟩ : ∃ g, g = v2.heap.size := ⟨_, rfl⟩
        rw [← hv, ← hg]
        have hRA : Row v3 gA 27 [.int .i64 0, .int .i64 0, .string ⟨#[]⟩, .slice none 0 0, .slice none 0 0] := by rw [hv, hg]; exact Row.new v2 _ _
        have hb3 : Below v2.heap.size v2 v3 := by rw [hv]; exact (Below.refl _ _).alloc (Nat.le_refl _) _
        have hLA : w3.heap.size ≤ gA := by rw [hg]; exact hB.size
        have hB := hB.trans (hb3.mono hB.size)
        have hRB := hRB.below hb3
        have hRS := hRS.below hb3
        clear hv hg hb3
        refine hK.out _ _ trivial (fun hH => ?_)
        clear hK K
        refine oneH (i := 9) rfl (by kernel_rfl) (fun K hK => ?_)
        have hcv2 := RowY.str hRS 2 2 (Nat.le_refl _)
        rw [show [hexN hi, hexU lo].take 2 = [hexN hi, hexU lo] from rfl] at hcv2
        go_simp
        clear hcv2
        refine hK.out _ _ trivial (fun hH => ?_)
        clear hK K
        refine takeH (i := 10) (v := ?_) rfl (by kernel_rfl) (by kernel_rfl) (by kernel_rfl) (fun _ _ _ h => h) (Or.inl ⟨by rfl, ?_⟩) hH ?_
        rotate_left
        · (intro w hSw; (try dsimp only at hSw); go_simp; try with_reducible rfl)
        simp only [Act.put, List.setIfInBounds_toArray, List.set_cons_zero, List.set_cons_succ]
        refine takeH (i := 11) (v := ?_) rfl (by kernel_rfl) (by kernel_rfl) (by kernel_rfl) (fun _ _ _ h => h) (Or.inl ⟨by rfl, ?_⟩) hH ?_
        rotate_left
        · (intro w hSw; (try dsimp only at hSw); go_simp; try with_reducible rfl)
        simp only [Act.put, List.setIfInBounds_toArray, List.set_cons_zero, List.set_cons_succ]
        refine oneH (i := 12) rfl (by kernel_rfl) (fun K hK => ?_)
        have hqA := hRA.lt
        have hqB := hRB.lt
        go_simp
        go_at_call 8
        refine (HP2.out v3).mono ?_; rintro e v4 ⟨bb, qq, bb', qq', rfl, hPP, hb4⟩
        have hB := hB.trans (hb4.mono hB.size)
        have hRA := hRA.below hb4
        have hRB := hRB.below hb4
        have hRS := hRS.below hb4
        obtain ⟨lp, hlp⟩ : ∃ l, l = v3.heap.size := ⟨_, rfl⟩
        rw [← hlp] at hPP
        obtain ⟨vp, hvp⟩ : ∃ W, W = v4 := ⟨_, rfl⟩
        rw [← hvp] at hPP
        have hKP : ∀ j, lp ≤ j → j < vp.heap.size → v4.heap[j]? = vp.heap[j]? := fun j _ _ => by rw [hvp]
        have hsp : vp.heap.size ≤ v4.heap.size := by rw [hvp]; exact Nat.le_refl _
        have hAP : gA < lp ∨ vp.heap.size ≤ gA := .inl (by rw [hlp]; exact hqA)
        have hBP : gB < lp ∨ vp.heap.size ≤ gB := .inl (by rw [hlp]; exact hqB)
        clear hb4 hlp hvp hqA hqB
        refine hK.out _ _ trivial (fun hH => ?_)
        clear hK K
        refine takeH (i := 13) (v := ?_) rfl (by kernel_rfl) (by kernel_rfl) (by kernel_rfl) (fun _ _ _ h => h) (Or.inl ⟨by rfl, ?_⟩) hH ?_
        rotate_left
        · (intro w hSw; (try dsimp only at hSw); go_simp; try with_reducible rfl)
        simp only [Act.put, List.setIfInBounds_toArray, List.set_cons_zero, List.set_cons_succ]
        refine takeH (i := 14) (v := ?_) rfl (by kernel_rfl) (by kernel_rfl) (by kernel_rfl) (fun _ _ _ h => h) (Or.inl ⟨by rfl, ?_⟩) hH ?_
        rotate_left
        · (intro w hSw; (try dsimp only at hSw); go_simp; try with_reducible rfl)
        simp only [Act.put, List.setIfInBounds_toArray, List.set_cons_zero, List.set_cons_succ]
        refine takeH (i := 15) (v := ?_) rfl (by kernel_rfl) (by kernel_rfl) (by kernel_rfl) (fun _ _ _ h => h) (Or.inl ⟨by rfl, ?_⟩) hH ?_
        rotate_left
        · (intro w hSw; (try dsimp only at hSw); go_simp; try with_reducible rfl)
        simp only [Act.put, List.setIfInBounds_toArray, List.set_cons_zero, List.set_cons_succ]
        refine oneH (i := 18) rfl (by kernel_rfl) (fun K hK => ?_)
        obtain ⟨v5, hv⟩ : ∃ W, W = set5 v4 gA (.int .i64 (kD r2)) (.int .i64 (nD r2)) (.string (sD r2)) (.slice bb (iD r2).length qq) (.slice bb' (mD r2).length qq') := ⟨_, rfl⟩
        obtain ⟨t0, t1, t2, t3, t4⟩ := row5 hRA
        have q0 := hRA.frozen 0
        have q1 := hRA.frozen 1
        have q2 := hRA.frozen 2
        have q3 := hRA.frozen 3
        have q4 := hRA.frozen 4
        have hRA2 : Row v5 gA 27 [.int .i64 (kD r2), .int .i64 (nD r2), .string (sD r2), .slice bb (iD r2).length qq, .slice bb' (mD r2).length qq'] := by rw [hv]; exact row_set5 hRA _ _ _ _ _
        have hRB : Row v5 gB 30 [.int .i64 0, .int .i64 0] := by rw [hv]; exact row_far5 hRB (Ne.symm (Row.ne_ hRA hRB (by decide))) _ _ _ _ _
        have hB : Below w3.heap.size w3 v5 := by rw [hv]; exact below_set5 hB hLA _ _ _ _ _
        have hKP : ∀ j, lp ≤ j → j < vp.heap.size → v5.heap[j]? = vp.heap[j]? := fun j j1 j2 => by rw [hv, set5_heap _ _ _ _ _ _ _ (by omega)]; exact hKP j j1 j2
        have hsp : vp.heap.size ≤ v5.heap.size := by rw [hv, set5_size]; exact hsp
        unfold set5 at hv
        go_simp
        rw [← hv]
        clear hv t0 t1 t2 t3 t4 q0 q1 q2 q3 q4 hRA hRS
        have hRA := hRA2
        clear hRA2
        refine hK.out _ _ trivial (fun hH => ?_)
        clear hK K
        have hne : gA ≠ gB := Row.ne_ hRA hRB (by decide)
        obtain ⟨wf, hwf⟩ : ∃ W, W = (v5.setCell ⟨gB, 0, none⟩ (.int .i64 0)).setCell ⟨gB, 1, none⟩ (.int .i64 0) := ⟨_, rfl⟩
        obtain ⟨k0, k1, k2, k3⟩ := strings_fin hRA hRB hne hB hLB hPP hKP hBP hsp hwf
        have t0 : v5.cell? ⟨gB, 0, none⟩ = some (.int .i64 0) := hRB.cell 0
        have t1 : v5.cell? ⟨gB, 1, none⟩ = some (.int .i64 0) := hRB.cell 1
        have q0 := hRB.frozen 0
        have q1 := hRB.frozen 1
        clear hRA hRB hB hPP hKP hAP hBP hsp
        refine oneH (i := 19) rfl (by kernel_rfl) (fun K hK => ?_)
        go_simp
        rw [← hwf]
        refine hK.out _ _ trivial (fun hH => ?_)
        clear hK K hwf t0 t1 q0 q1
        refine wpAnyH_done (by kernel_rfl) ?_ _
        have HK0 := hide k0; have HK1 := hide k1; have HK2 := hide k2; have HK3 := hide k3
        clear k0 k1 k2 k3 hH hs1 hs2 e1 e2 e4 l1 l2 hSS s1 s2 HU hp1 hne hLA hLB
        have hcvf := hcv wf
        go_upto_region 6 with fail
        obtain ⟨wg, hwg⟩ : ∃ W, W = wf.alloc (.cells #[.int .u8 (c.toNat : Int)] 5) := ⟨_, rfl⟩
        have hBg : Below wf.heap.size wf wg := by rw [hwg]; exact (Below.refl _ _).alloc (Nat.le_refl _) _
        have hsg : wf.heap.size + 1 = wg.heap.size := by rw [hwg]; simp
        rw [← hwg, hsg]
        obtain ⟨w7, g7, e1, e2, hB7, z0, z1, z2, z3, z4, hR7⟩ := boxD wg 4 0 T (.slice none 0 0) (.slice none 0 0)
        rw [e1, e2]
        have hBB := hBg.trans (hB7.mono hBg.size)
        have HB7 := hide (HB3.out.trans ((HK2.out.trans (hBB.mono HK2.out.size)).mono HB3.out.size))
        have hRA7 := HK0.out.below hBB
        have hRB7 := HK1.out.below hBB
        have hP7 := HK3.out.turn (Same.of_below hBB) hBB.size
        have hr3 := (HR3.out.1.below HK2.out).below hBB
        have hf3 := (HR3.out.2.below HK2.out).below hBB
        have hP3 := HP3.out.turn (Same.of_below (HK2.out.trans (hBB.mono HK2.out.size))) (HK2.out.trans (hBB.mono HK2.out.size)).size
        have HSR := hide fun W (h : Below w7.heap.size w7 W) => And.intro (row5 (hRA7.below h)) (row5 (hR7.below h))
        have HSA := hide fun W (h : Below w7.heap.size w7 W) => (strings_same HTT.out (hP3.turn (Same.of_below h) h.size) HM1.out s1b : Calls Tryd.prog 9 #[.agg #[.int .i64 (kD r1), .int .i64 (nD r1), .string (sD r1), .slice b2 (iD r1).length q2, .slice b2' (mD r1).length q2'], .agg #[.int .i64 4, .int .i64 0, .string T, .slice none 0 0, .slice none 0 0]] W fun e w' => e = .returned (.bool true) ∧ Below W.heap.size W w')
        have HSB := hide fun W (h : Below w7.heap.size w7 W) => (strings_same HTT.out (hP7.turn (Same.of_below h) h.size) HM2.out s2b : Calls Tryd.prog 9 #[.agg #[.int .i64 (kD r2), .int .i64 (nD r2), .string (sD r2), .slice bb (iD r2).length qq, .slice bb' (mD r2).length qq'], .agg #[.int .i64 4, .int .i64 0, .string T, .slice none 0 0, .slice none 0 0]] W fun e w' => e = .returned (.bool true) ∧ Below W.heap.size W w')
        have y0 : w7.cell? ⟨gB, 0, none⟩ = some (.int .i64 0) := hRB7.cell 0
        have y1 : w7.cell? ⟨gB, 1, none⟩ = some (.int .i64 0) := hRB7.cell 1
        have x0 : w7.cell? ⟨f3, 0, none⟩ = some (.int .i64 0) := hf3.cell 0
        have x1 : w7.cell? ⟨f3, 1, none⟩ = some (.int .i64 0) := hf3.cell 1
        obtain ⟨u0, u1, u2, u3, u4⟩ := row5 hr3
        clear hwg hBg hsg e1 e2 hBB hB7 hR7 hRA7 hRB7 hP7 hr3 hf3 hP3 HK0 HK1 HK2 HK3 HR3 HP3 hcvf hcv
        go_wp2_with fail
        refine (HSA.out _ (Below.refl _ _)).mono ?_; rintro e w8 ⟨rfl, hB8⟩
        obtain ⟨⟨u0', u1', u2', u3', u4'⟩, ⟨z0', z1', z2', z3', z4'⟩⟩ := HSR.out _ hB8
        have HX := hide (HSB.out _ hB8)
        have HB8 := hide (HB7.out.trans (hB8.mono HB7.out.size))
        clear u0 u1 u2 u3 u4 z0 z1 z2 z3 z4 y0 y1 x0 x1 hB8 HSA HSB HSR HB7
        go_wp2_with fail
        refine HX.out.mono ?_; rintro e w9 ⟨rfl, hB9⟩
        have HB9 := hide (HB8.out.trans (hB9.mono HB8.out.size))
        have HY := hide (HE.out _ HB9.out)
        clear hB9 HX HB8 u0' u1' u2' u3' u4' z0' z1' z2' z3' z4'
        go_wp2_with fail
        refine HY.out.mono ?_; rintro e w10 ⟨rfl, hB10⟩
        have HB10 := hide (HB9.out.trans (hB10.mono HB9.out.size))
        go_wp2_with fail
        go_ret
        exact ⟨rfl, HB10.out⟩
    · skip
      go_simp
      obtain ⟨v2, hv⟩ : ∃ W, W = v1.alloc (.cells #[.int .i64 0, .int .i64 0, .string ⟨#[]⟩, .slice none 0 0, .slice none 0 0] 27) := ⟨_, rfl⟩
      obtain ⟨gA, hg⟩ : ∃ g, g = v1.heap.size := ⟨_, rfl⟩
      rw [← hv, ← hg]
      have hRA : Row v2 gA 27 [.int .i64 0, .int .i64 0, .string ⟨#[]⟩, .slice none 0 0, .slice none 0 0] := by rw [hv, hg]; exact Row.new v1 _ _
      have hb2 : Below v1.heap.size v1 v2 := by rw [hv]; exact (Below.refl _ _).alloc (Nat.le_refl _) _
      have hLA : w3.heap.size ≤ gA := by rw [hg]; exact hB.size
      have hB := hB.trans (hb2.mono hB.size)
      have hRB := hRB.below hb2
      clear hv hg hb2
      refine hK.out _ _ trivial (fun hH => ?_)
      clear hK K
      refine oneH (i := 8) rfl (by kernel_rfl) (fun K hK => ?_)
      go_simp
      obtain ⟨v3, hv⟩ : ∃ W, W = v2.alloc (.cells #[.int .u8 ((hexN hi).toNat : Int), .int .u8 ((hexU lo).toNat : Int)] 5) := ⟨_, rfl⟩
      obtain ⟨gS, hg⟩ : ∃ g, g = v2.heap.size := ⟨_, rfl⟩
      rw [← hv, ← hg]
      have hRS : Row v3 gS 5 (byL [hexN hi, hexU lo]) := by rw [hv, hg]; exact Row.new v2 _ _
      have hb3 : Below v2.heap.size v2 v3 := by rw [hv]; exact (Below.refl _ _).alloc (Nat.le_refl _) _
      have hB := hB.trans (hb3.mono hB.size)
      have hRA := hRA.below hb3
      have hRB := hRB.below hb3
      clear hv hg hb3
      refine hK.out _ _ trivial (fun hH => ?_)
      clear hK K
      refine oneH (i := 9) rfl (by kernel_rfl) (fun K hK => ?_)
      have hcv2 := RowY.str hRS 2 2 (Nat.le_refl _)
      rw [show [hexN hi, hexU lo].take 2 = [hexN hi, hexU lo] from rfl] at hcv2
      go_simp
      clear hcv2
      refine hK.out _ _ trivial (fun hH => ?_)
      clear hK K
      refine takeH (i := 10) (v := ?_) rfl (by kernel_rfl) (by kernel_rfl) (by kernel_rfl) (fun _ _ _ h => h) (Or.inl ⟨by rfl, ?_⟩) hH ?_
      rotate_left
      · (intro w hSw; (try dsimp only at hSw); go_simp; try with_reducible rfl)
      simp only [Act.put, List.setIfInBounds_toArray, List.set_cons_zero, List.set_cons_succ]
      refine takeH (i := 11) (v := ?_) rfl (by kernel_rfl) (by kernel_rfl) (by kernel_rfl) (fun _ _ _ h => h) (Or.inl ⟨by rfl, ?_⟩) hH ?_
      rotate_left
      · (intro w hSw; (try dsimp only at hSw); go_simp; try with_reducible rfl)
      simp only [Act.put, List.setIfInBounds_toArray, List.set_cons_zero, List.set_cons_succ]
      refine oneH (i := 12) rfl (by kernel_rfl) (fun K hK => ?_)
      have hqA := hRA.lt
      have hqB := hRB.lt
      go_simp
      go_at_call 8
      refine (HP2.out v3).mono ?_; rintro e v4 ⟨bb, qq, bb', qq', rfl, hPP, hb4⟩
      have hB := hB.trans (hb4.mono hB.size)
      have hRA := hRA.below hb4
      have hRB := hRB.below hb4
      have hRS := hRS.below hb4
      obtain ⟨lp, hlp⟩ : ∃ l, l = v3.heap.size := ⟨_, rfl⟩
      rw [← hlp] at hPP
      obtain ⟨vp, hvp⟩ : ∃ W, W = v4 := ⟨_, rfl⟩
      rw [← hvp] at hPP
      have hKP : ∀ j, lp ≤ j → j < vp.heap.size → v4.heap[j]? = vp.heap[j]? := fun j _ _ => by rw [hvp]
      have hsp : vp.heap.size ≤ v4.heap.size := by rw [hvp]; exact Nat.le_refl _
      have hAP : gA < lp ∨ vp.heap.size ≤ gA := .inl (by rw [hlp]; exact hqA)
      have hBP : gB < lp ∨ vp.heap.size ≤ gB := .inl (by rw [hlp]; exact hqB)
      clear hb4 hlp hvp hqA hqB
      refine hK.out _ _ trivial (fun hH => ?_)
      clear hK K
      refine takeH (i := 13) (v := ?_) rfl (by kernel_rfl) (by kernel_rfl) (by kernel_rfl) (fun _ _ _ h => h) (Or.inl ⟨by rfl, ?_⟩) hH ?_
      rotate_left
      · (intro w hSw; (try dsimp only at hSw); go_simp; try with_reducible rfl)
      simp only [Act.put, List.setIfInBounds_toArray, List.set_cons_zero, List.set_cons_succ]
      refine takeH (i := 14) (v := ?_) rfl (by kernel_rfl) (by kernel_rfl) (by kernel_rfl) (fun _ _ _ h => h) (Or.inl ⟨by rfl, ?_⟩) hH ?_
      rotate_left
      · (intro w hSw; (try dsimp only at hSw); go_simp; try with_reducible rfl)
      simp only [Act.put, List.setIfInBounds_toArray, List.set_cons_zero, List.set_cons_succ]
      refine takeH (i := 15) (v := ?_) rfl (by kernel_rfl) (by kernel_rfl) (by kernel_rfl) (fun _ _ _ h => h) (Or.inl ⟨by rfl, ?_⟩) hH ?_
      rotate_left
      · (intro w hSw; (try dsimp only at hSw); go_simp; try with_reducible rfl)
      simp only [Act.put, List.setIfInBounds_toArray, List.set_cons_zero, List.set_cons_succ]
      refine oneH (i := 18) rfl (by kernel_rfl) (fun K hK => ?_)
      obtain ⟨v5, hv⟩ : ∃ W, W = set5 v4 gA (.int .i64 (kD r2)) (.int .i64 (nD r2)) (.string (sD r2)) (.slice bb (iD r2).length qq) (.slice bb' (mD r2).length qq') := ⟨_, rfl⟩
      obtain ⟨t0, t1, t2, t3, t4⟩ := row5 hRA
      have q0 := hRA.frozen 0
      have q1 := hRA.frozen 1
      have q2 := hRA.frozen 2
      have q3 := hRA.frozen 3
      have q4 := hRA.frozen 4
      have hRA2 : Row v5 gA 27 [.int .i64 (kD r2), .int .i64 (nD r2), .string (sD r2), .slice bb (iD r2).length qq, .slice bb' (mD r2).length qq'] := by rw [hv]; exact row_set5 hRA _ _ _ _ _
      have hRB : Row v5 gB 30 [.int .i64 0, .int .i64 0] := by rw [hv]; exact row_far5 hRB (Ne.symm (Row.ne_ hRA hRB (by decide))) _ _ _ _ _
      have hB : Below w3.heap.size w3 v5 := by rw [hv]; exact below_set5 hB hLA _ _ _ _ _
      have hKP : ∀ j, lp ≤ j → j < vp.heap.size → v5.heap[j]? = vp.heap[j]? := fun j j1 j2 => by rw [hv, set5_heap _ _ _ _ _ _ _ (by omega)]; exact hKP j j1 j2
      have hsp : vp.heap.size ≤ v5.heap.size := by rw [hv, set5_size]; exact hsp
      unfold set5 at hv
      go_simp
      rw [← hv]
      clear hv t0 t1 t2 t3 t4 q0 q1 q2 q3 q4 hRA hRS
      have hRA := hRA2
      clear hRA2
      refine hK.out _ _ trivial (fun hH => ?_)
      clear hK K
      have hne : gA ≠ gB := Row.ne_ hRA hRB (by decide)
      obtain ⟨wf, hwf⟩ : ∃ W, W = (v5.setCell ⟨gB, 0, none⟩ (.int .i64 0)).setCell ⟨gB, 1, none⟩ (.int .i64 0) := ⟨_, rfl⟩
      obtain ⟨k0, k1, k2, k3⟩ := strings_fin hRA hRB hne hB hLB hPP hKP hBP hsp hwf
      have t0 : v5.cell? ⟨gB, 0, none⟩ = some (.int .i64 0) := hRB.cell 0
      have t1 : v5.cell? ⟨gB, 1, none⟩ = some (.int .i64 0) := hRB.cell 1
      have q0 := hRB.frozen 0
      have q1 := hRB.frozen 1
      clear hRA hRB hB hPP hKP hAP hBP hsp
      refine oneH (i := 19) rfl (by kernel_rfl) (fun K hK => ?_)
      go_simp
      rw [← hwf]
      refine hK.out _ _ trivial (fun hH => ?_)
      clear hK K hwf t0 t1 q0 q1
      refine wpAnyH_done (by kernel_rfl) ?_ _
      have HK0 := hide k0; have HK1 := hide k1; have HK2 := hide k2; have HK3 := hide k3
      clear k0 k1 k2 k3 hH hs1 hs2 e1 e2 e4 l1 l2 hSS s1 s2 HU hp1 hne hLA hLB
      have hcvf := hcv wf
      go_upto_region 6 with fail
      obtain ⟨wg, hwg⟩ : ∃ W, W = wf.alloc (.cells #[.int .u8 (c.toNat : Int)] 5) := ⟨_, rfl⟩
      have hBg : Below wf.heap.size wf wg := by rw [hwg]; exact (Below.refl _ _).alloc (Nat.le_refl _) _
      have hsg : wf.heap.size + 1 = wg.heap.size := by rw [hwg]; simp
      rw [← hwg, hsg]
      obtain ⟨w7, g7, e1, e2, hB7, z0, z1, z2, z3, z4, hR7⟩ := boxD wg 4 0 T (.slice none 0 0) (.slice none 0 0)
      rw [e1, e2]
      have hBB := hBg.trans (hB7.mono hBg.size)
      have HB7 := hide (HB3.out.trans ((HK2.out.trans (hBB.mono HK2.out.size)).mono HB3.out.size))
      have hRA7 := HK0.out.below hBB
      have hRB7 := HK1.out.below hBB
      have hP7 := HK3.out.turn (Same.of_below hBB) hBB.size
      have hr3 := (HR3.out.1.below HK2.out).below hBB
      have hf3 := (HR3.out.2.below HK2.out).below hBB
      have hP3 := HP3.out.turn (Same.of_below (HK2.out.trans (hBB.mono HK2.out.size))) (HK2.out.trans (hBB.mono HK2.out.size)).size
      have HSR := hide fun W (h : Below w7.heap.size w7 W) => And.intro (row5 (hRA7.below h)) (row5 (hR7.below h))
      have HSA := hide fun W (h : Below w7.heap.size w7 W) => (strings_same HTT.out (hP3.turn (Same.of_below h) h.size) HM1.out s1b : Calls Tryd.prog 9 #[.agg #[.int .i64 (kD r1), .int .i64 (nD r1), .string (sD r1), .slice b2 (iD r1).length q2, .slice b2' (mD r1).length q2'], .agg #[.int .i64 4, .int .i64 0, .string T, .slice none 0 0, .slice none 0 0]] W fun e w' => e = .returned (.bool true) ∧ Below W.heap.size W w')
      have HSB := hide fun W (h : Below w7.heap.size w7 W) => (strings_same HTT.out (hP7.turn (Same.of_below h) h.size) HM2.out s2b : Calls Tryd.prog 9 #[.agg #[.int .i64 (kD r2), .int .i64 (nD r2), .string (sD r2), .slice bb (iD r2).length qq, .slice bb' (mD r2).length qq'], .agg #[.int .i64 4, .int .i64 0, .string T, .slice none 0 0, .slice none 0 0]] W fun e w' => e = .returned (.bool true) ∧ Below W.heap.size W w')
      have y0 : w7.cell? ⟨gB, 0, none⟩ = some (.int .i64 0) := hRB7.cell 0
      have y1 : w7.cell? ⟨gB, 1, none⟩ = some (.int .i64 0) := hRB7.cell 1
      have x0 : w7.cell? ⟨f3, 0, none⟩ = some (.int .i64 0) := hf3.cell 0
      have x1 : w7.cell? ⟨f3, 1, none⟩ = some (.int .i64 0) := hf3.cell 1
      obtain ⟨u0, u1, u2, u3, u4⟩ := row5 hr3
      clear hwg hBg hsg e1 e2 hBB hB7 hR7 hRA7 hRB7 hP7 hr3 hf3 hP3 HK0 HK1 HK2 HK3 HR3 HP3 hcvf hcv
      go_wp2_with fail
      refine (HSA.out _ (Below.refl _ _)).mono ?_; rintro e w8 ⟨rfl, hB8⟩
      obtain ⟨⟨u0', u1', u2', u3', u4'⟩, ⟨z0', z1', z2', z3', z4'⟩⟩ := HSR.out _ hB8
      have HX := hide (HSB.out _ hB8)
      have HB8 := hide (HB7.out.trans (hB8.mono HB7.out.size))
      clear u0 u1 u2 u3 u4 z0 z1 z2 z3 z4 y0 y1 x0 x1 hB8 HSA HSB HSR HB7
      go_wp2_with fail
      refine HX.out.mono ?_; rintro e w9 ⟨rfl, hB9⟩
      have HB9 := hide (HB8.out.trans (hB9.mono HB8.out.size))
      have HY := hide (HE.out _ HB9.out)
      clear hB9 HX HB8 u0' u1' u2' u3' u4' z0' z1' z2' z3' z4'
      go_wp2_with fail
      refine HY.out.mono ?_; rintro e w10 ⟨rfl, hB10⟩
      have HB10 := hide (HB9.out.trans (hB10.mono HB9.out.size))
      go_wp2_with fail
      go_ret
      exact ⟨rfl, HB10.out⟩
end Go.Proofs.YtmmbbndoimleaaaDoor
