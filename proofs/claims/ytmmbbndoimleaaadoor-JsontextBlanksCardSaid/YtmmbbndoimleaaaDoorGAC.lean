/- cmp.Compare, cmp.Or; Num and Str of the reference; slices.CompareFunc over data and over members; text and Text of package data; Text of package data; Writing JSON, plain: strings, lines, values; A region that draws its order and ends in operations of one forced order: the head under a condition that the tail may break; The parser in memory; next, digit, fail; Reading JSON, plain: blanks, words, digits, numbers, escapes, strings, values; blanks, word; hex, escape; escape. -/
import Derived.Test.YtmmbbndoimleaaaDoorGAB
import Derived.Test.YtmmbbndoimleaaaDoorGAA
import Derived.StillTail
import Derived.Deep.RegionHeld3
import Derived.Defers
import Derived.WalkSmall

/- cmp.Compare, cmp.Or; Num and Str of the reference. -/
namespace Go.Proofs.YtmmbbndoimleaaaDoor
open Go.RowKit

def cmpI (a b : Int) : Int := if a < b then -1 else if b < a then 1 else 0
def gtB (a b : ByteArray) : Bool := !(Op.bytesLess a.toList b.toList || a.toList == b.toList)
def cmpS (a b : ByteArray) : Int := if Op.bytesLess a.toList b.toList = true then -1 else if gtB a b = true then 1 else 0

theorem cmpStr_run (a b : ByteArray) (w : World) : Calls Tryd.prog 39 #[.string a, .string b] w fun e w' => e = .returned (.int .i64 (cmpS a b)) ∧ w' = w := by
  obtain ⟨r, hr⟩ : ∃ r, r = cmpS a b := ⟨_, rfl⟩
  rw [← hr]
  unfold cmpS at hr
  have HR := Lib.hid hr
  clear hr
  go_enter Tryd.func39, Tryd.ntmps39
  cases hl : Op.bytesLess a.toList b.toList with
  | true =>
    go_wp2
    go_ret
    exact ⟨ret_int (by rw [HR.out, hl]; rfl), rfl⟩
  | false =>
    cases he : (a.toList == b.toList) with
    | true =>
      have HZ := hide (show r = 0 by rw [HR.out, hl, gtB, hl, he]; rfl)
      go_wp2
      go_ret
      exact ⟨ret_int HZ.out.symm, rfl⟩
    | false =>
      have HZ := hide (show r = 1 by rw [HR.out, hl, gtB, hl, he]; rfl)
      go_wp2
      go_ret
      exact ⟨ret_int HZ.out.symm, rfl⟩
def orI (a b : Int) : Int := if a = 0 then b else a
end Go.Proofs.YtmmbbndoimleaaaDoor

/- slices.CompareFunc over data and over members. -/
namespace Go.Proofs.YtmmbbndoimleaaaDoor
open Go.RowKit

def cmpL {α : Type} (f : α → α → Int) : List α → List α → Int
  | [], [] => 0
  | [], _ :: _ => -1
  | _ :: _, [] => 1
  | x :: l, y :: k => if f x y = 0 then cmpL f l k else f x y

/-- A member is laid into a new block. -/
def memCs (x : ByteArray × Dt) (A : Option Addr) (c : Nat) (A' : Option Addr) (c' : Nat) : List Value := .string x.1 :: datCs x.2 A c A' c'
def memV (x : ByteArray × Dt) (A : Option Addr) (c : Nat) (A' : Option Addr) (c' : Nat) : Value := .agg (memCs x A c A' c').toArray
theorem boxM (w : World) (x : ByteArray × Dt) (A : Option Addr) (c : Nat) (A' : Option Addr) (c' : Nat) : ∃ w1 g, w.alloc (Obj.cells #[.string x.1, .int .i64 (kD x.2), .int .i64 (nD x.2), .string (sD x.2), .slice A (iD x.2).length c, .slice A' (mD x.2).length c'] 50) = w1 ∧ w.heap.size = g ∧ Below w.heap.size w w1 ∧
    Row w1 g 50 (memCs x A c A' c') := ⟨_, _, rfl, rfl, (Below.refl _ _).alloc (Nat.le_refl _) _, Row.new w _ _⟩
theorem row6 {w : World} {g : Nat} {t : TypeId} {x : ByteArray × Dt} {A : Option Addr} {c : Nat} {A' : Option Addr} {c' : Nat} (h : Row w g t (memCs x A c A' c')) :
    w.cell? ⟨g, 0, none⟩ = some (.string x.1) ∧ w.cell? ⟨g, 1, none⟩ = some (.int .i64 (kD x.2)) ∧ w.cell? ⟨g, 2, none⟩ = some (.int .i64 (nD x.2)) ∧ w.cell? ⟨g, 3, none⟩ = some (.string (sD x.2)) ∧
    w.cell? ⟨g, 4, none⟩ = some (.slice A (iD x.2).length c) ∧ w.cell? ⟨g, 5, none⟩ = some (.slice A' (mD x.2).length c') :=
  ⟨h.cell 0, h.cell 1, h.cell 2, h.cell 3, h.cell 4, h.cell 5⟩

end Go.Proofs.YtmmbbndoimleaaaDoor

/- text and Text of package data. -/
namespace Go.Proofs.YtmmbbndoimleaaaDoor
open Go.RowKit

theorem infoS : (Tryd.prog.info? 9).map (fun i => (i.zero, i.size, i.bytes)) = some (some (.string ⟨#[]⟩), 1, 16) := by kernel_rfl
theorem strsV_append (a b : List ByteArray) : strsV (a ++ b) = strsV a ++ strsV b := by unfold strsV; rw [List.map_append]
theorem strsV_len (a : List ByteArray) : (strsV a).length = a.length := by unfold strsV; rw [List.length_map]
theorem tbF_kids {m : Nat} {d : Dt} : (∀ x ∈ iD d, tbF m x ≤ tbF (m + 1) d) ∧ (∀ x ∈ mD d, x.1.size + tbF m x.2 ≤ tbF (m + 1) d) := by
  constructor
  · intro x hx
    have := sumN_le (tbF m) hx
    rw [tbF]; omega
  · intro x hx
    have := sumN_le (fun x : ByteArray × Dt => 10 + 4 * x.1.size + tbF m x.2) hx
    rw [tbF]; omega

theorem own_below {w w' : World} {base : Nat} {e : TypeId} {size : Nat} {v : Value} {n : Nat} {xs : List Value} (h : w.ownsRow base e size v n xs) (hB : Below w.heap.size w w') : w'.ownsRow base e size v n xs :=
  h.kept (grown_of_below hB (Nat.le_refl _)) (by cases v.ownBlock <;> simp)
theorem one_str {t : ByteArray} : ∀ u ∈ [Value.string t], u.oneCell' = true := by simp [Value.oneCell']

set_option maxRecDepth 100000 in
set_option maxHeartbeats 4000000 in
theorem text_run : ∀ (m : Nat) (d : Dt) (A : Option Addr) (c : Nat) (A' : Option Addr) (c' : Nat) (w : World), Parts w w.heap.size m d A c A' c' → tbF m d ≤ 1000000000 → Tab w →
    Calls Tryd.prog 53 #[datV d A c A' c'] w fun e w' => e = .returned (.string (textF m d)) ∧ Below w.heap.size w w' := by
  intro m
  induction m with
  | zero => intro d A c A' c' w hp _ _; exact hp.elim
  | succ m ih =>
    intro d A c A' c' w hp hbd ht
    have htb := partsL_le m (textF m) (textF_le m) d
    have HPL := hide (show sumN (fun x => x.size + 2) (partsL (textF m) d) ≤ 1000000000 by omega)
    have hpl : (partsL (textF m) d).length ≤ 1000000000 := Nat.le_trans (sumN_len (fun x : ByteArray => x.size + 2) (fun x => by omega) _) HPL.out
    have hsz : (sD d).size ≤ 1000000000 := by omega
    obtain ⟨hb1, hb2⟩ := tbF_kids (m := m) (d := d)
    obtain ⟨⟨h1, h2, h3, h4⟩, hI, hM⟩ := hp
    have hm := maxLen_le h2; have hm' := maxLen_le h4
    have HI := hide fun i x (h : (iD d)[i]? = some x) => And.intro (hI i x h) (show tbF m x ≤ 1000000000 by have := hb1 x (List.mem_of_getElem? h); omega)
    have HM := hide fun i x (h : (mD d)[i]? = some x) => And.intro (hM i x h) (show x.1.size ≤ 1000000000 ∧ tbF m x.2 ≤ 1000000000 by have := hb2 x (List.mem_of_getElem? h); omega)
    have HTAB := hide fun W (hB : Below w.heap.size w W) => tab_below ht hB
    obtain ⟨i0, hi0, hz0, hz1, hz2⟩ := info_parts infoS
    obtain ⟨res, hres⟩ : ∃ r, r = textF (m + 1) d := ⟨_, rfl⟩
    rw [← hres]
    rw [textF] at hres
    unfold datV datCs
    obtain ⟨k, hk⟩ : ∃ k, k = kD d := ⟨_, rfl⟩
    obtain ⟨n, hn'⟩ : ∃ k, k = nD d := ⟨_, rfl⟩
    obtain ⟨s, hs⟩ : ∃ k, k = sD d := ⟨_, rfl⟩
    obtain ⟨L, hL⟩ : ∃ k, k = partsL (textF m) d := ⟨_, rfl⟩
    rw [← hL] at HPL hpl
    rw [← hk, ← hn', ← hs, ← hL] at hres
    rw [← hs] at hsz
    unfold partsL at hL
    obtain ⟨xs, hxs⟩ : ∃ k, k = iD d := ⟨_, rfl⟩
    obtain ⟨ys, hys⟩ : ∃ k, k = mD d := ⟨_, rfl⟩
    rw [← hxs] at HI h1
    rw [← hys] at HM h3
    rw [← hxs, ← hys] at hL
    rw [← hk, ← hn', ← hs, ← hxs, ← hys]
    have hxy : xs.length + ys.length ≤ 1000000000 := by rw [hL] at hpl; simpa using hpl
    obtain ⟨LA, hLA⟩ : ∃ k, k = xs.map (textF m) := ⟨_, rfl⟩
    obtain ⟨LC, hLC⟩ : ∃ k, k = ys.map (mtext (textF m)) := ⟨_, rfl⟩
    have HLA := hide (show ∀ i X, xs[i]? = some X → LA[i]? = some (textF m X) from fun i X h => by rw [hLA, List.getElem?_map, h]; rfl)
    have HLC := hide (show ∀ i X, ys[i]? = some X → LC[i]? = some (mtext (textF m) X) from fun i X h => by rw [hLC, List.getElem?_map, h]; rfl)
    have HLAL := hide (show LA.length = xs.length by rw [hLA, List.length_map])
    have HLCL := hide (show LC.length = ys.length by rw [hLC, List.length_map])
    rw [← hLA, ← hLC] at hL
    clear hLA hLC
    obtain ⟨x, hx⟩ : ∃ k, k = xs.length := ⟨_, rfl⟩
    obtain ⟨y, hy⟩ : ∃ k, k = ys.length := ⟨_, rfl⟩
    rw [← hx] at h1 hxy
    rw [← hy] at h3 hxy
    rw [← hx, ← hy]
    have HL := Lib.hid hL; have HX := Lib.hid hx; have HY := Lib.hid hy; have HRES := Lib.hid hres
    have HQ := hide fun w => Quote_run s hsz w
    have HN := hide fun w (h : Tab w) => numText_run n w h
    clear hk hn' hs hxs hys hx hy h2 h4 hL hM hI hres hb1 hb2 hbd ht htb hpl
    go_enter Tryd.func53, Tryd.ntmps53
    go_upto_region 1 with fail
    obtain ⟨w1, g, e1, e2, hBL, c0, c1, c2, c3, c4, hROW⟩ := boxD w k n s (.slice A x c) (.slice A' y c')
    rw [e1, e2]
    have HBL := hide hBL; have HROW := hide hROW
    have hgl : g < w1.heap.size := hROW.lt
    have hgw : w.heap.size ≤ g := by omega
    clear e1 e2 hBL hROW
    have HC := hide fun W (h : Below w1.heap.size w1 W) => row5 (HROW.out.below h)
    go_wp2_with fail
    go_loopw [3, 5, 11] (fun ov _ iv wr => ∃ i : Nat, iv = .int .i64 i ∧ i ≤ x ∧ Hid (Below w1.heap.size w1 wr) ∧ Hid (wr.ownsRow w1.heap.size 9 1 ov i (strsV (LA.take i)))) (fun _ _ iv _ => x - (intOf iv).toNat)
    case atStart => exact ⟨0, rfl, Nat.zero_le _, hide (Below.refl _ _), hide (World.ownsRow_nil _ _ _ _)⟩
    case round =>
      obtain ⟨i, rfl, hi, hB, hO⟩ := hrel
      have hwB := HBL.out.trans (hB.out.mono HBL.out.size)
      by_cases hlt : i < x
      · have hlt' : i < xs.length := by rw [← HX.out]; exact hlt
        obtain ⟨⟨ad, rfl, hb, a, q, a', q', hfive, hpts⟩, htx⟩ := HI.out i _ (List.getElem?_eq_getElem hlt')
        obtain ⟨X, hX⟩ : ∃ X, X = xs[i] := ⟨_, rfl⟩
        rw [← hX] at hfive hpts htx
        have hbb : (ad.add (i * 5)).block < w.heap.size := by rw [block_of_add]; exact hb
        obtain ⟨s0, s1, s2, s3, s4⟩ := hfive.same hbb (Same.of_below hwB)
        have HCK := hide fun w' (hB' : Below w.heap.size w w') => ih X a q a' q' w' (hpts.turn (Same.of_below hB') hB'.size) htx (HTAB.out _ hB')
        have HXX := hide (show strsV (LA.take (i + 1)) = strsV (LA.take i) ++ [.string (textF m X)] by
          rw [List.take_add_one, HLA.out i _ (List.getElem?_eq_getElem hlt'), strsV_append, hX]; rfl)
        unfold datV datCs at HCK
        obtain ⟨T, hT⟩ : ∃ T, T = textF m X := ⟨_, rfl⟩
        rw [← hT] at HCK HXX
        have HB := hide (below_al hwB (Obj.cells #[Value.int IntKind.i64 (kD X), Value.int IntKind.i64 (nD X), Value.string (sD X), Value.slice a (iD X).length q, Value.slice a' (mD X).length q'] 27))
        have HB1 := hide (below_al hB.out (Obj.cells #[Value.int IntKind.i64 (kD X), Value.int IntKind.i64 (nD X), Value.string (sD X), Value.slice a (iD X).length q, Value.slice a' (mD X).length q'] 27))
        have HO := hide (hO.out.alloc (Obj.cells #[Value.int IntKind.i64 (kD X), Value.int IntKind.i64 (nD X), Value.string (sD X), Value.slice a (iD X).length q, Value.slice a' (mD X).length q'] 27))
        clear hfive hpts hX hlt' hb hbb htx hT hwB hB hO c0 c1 c2 c3 c4
        go_wp2_with fail
        refine (HCK.out _ HB.out).mono ?_; rintro e w4 ⟨rfl, hB4⟩
        have HB4 := hide (hB4.mono HB1.out.size)
        have HO4 := hide (own_below HO.out hB4)
        have hw4 : w1.heap.size ≤ w4.heap.size := Nat.le_trans HB1.out.size hB4.size
        clear hB4 HCK s0 s1 s2 s3 s4 HO HB
        go_wp2_with (at_builtin; refine wpList_append_all _ rfl (.tmp 15) (.tmp 18) _ rfl w1.heap.size 9 i0 _ 1 16 Tryd.underlying70 hi0 hz0 hz1 hz2 rfl (by omega) u3 i (strsV (LA.take i)) rfl (HO4.out.alloc _) (some ⟨w4.heap.size, 0, none⟩) 1 1 [.string T] rfl (by intro h; cases h) rfl (by intro ad' h; injection h with h; subst h; exact World.news_of_block (heap_alloc_new _ _)) one_str (by unfold maxLen; omega) (by omega) (by simp; omega) ?_)
        intro v' w' o1 o2
        have HB5 := hide (Below.grown (below_al (HB1.out.trans HB4.out) (.cells #[.string T] 9)) o2.out (by simp; omega) (fun k e => (HO4.out.lt k e).1))
        have HO5 := hide (show w'.ownsRow w1.heap.size 9 1 v' (i + 1) (strsV (LA.take (i + 1))) by rw [HXX.out]; exact o1.out)
        clear o1 o2 HO4 HB4
        go_wp2_with fail
        go_roundw
        case rel => exact ⟨i + 1, by go_num, by omega, HB5, HO5⟩
        case measure => simp [intOf]; omega
      · obtain rfl : x = i := by omega
        have HO0 := hide (show wr.ownsRow w1.heap.size 9 1 u3 (x + 0) (strsV (LA ++ LC.take 0)) by
          have := hO.out
          have e : LA.take x = LA := by rw [HX.out, ← HLAL.out, List.take_length]
          rw [e] at this
          rw [List.take_zero, List.append_nil]
          exact this)
        have HB0 := hide hB.out
        obtain ⟨c0, c1, c2, c3, c4⟩ := HC.out _ hB.out
        clear hO hB hwB
        go_wp2_with fail
        clear hi hlt
        go_loopw [3, 7, 24] (fun ov _ iv wr => ∃ i : Nat, iv = .int .i64 i ∧ i ≤ y ∧ Hid (Below w1.heap.size w1 wr) ∧ Hid (wr.ownsRow w1.heap.size 9 1 ov (x + i) (strsV (LA ++ LC.take i)))) (fun _ _ iv _ => y - (intOf iv).toNat)
        case atStart => exact ⟨0, rfl, Nat.zero_le _, HB0, HO0⟩
        case round =>
          clear HB0 HO0 c0 c1 c2 c3 c4
          obtain ⟨i, rfl, hi, hB, hO⟩ := hrel
          have hwB := HBL.out.trans (hB.out.mono HBL.out.size)
          by_cases hlt : i < y
          · have hlt' : i < ys.length := by rw [← HY.out]; exact hlt
            obtain ⟨⟨ad, rfl, hb, hlab, a, q, a', q', hfive, hpts⟩, hls, htx⟩ := HM.out i _ (List.getElem?_eq_getElem hlt')
            obtain ⟨M, hMM⟩ : ∃ M, M = ys[i] := ⟨_, rfl⟩
            rw [← hMM] at hlab hfive hpts htx hls
            have hbb : (ad.add (i * 6)).block < w.heap.size := by rw [block_of_add]; exact hb
            have HSIX := hide (six_of ((hwB.cell (p := ad.add (i * 6)) hbb).trans hlab) (hfive.same (p := ⟨_, _, none⟩) hbb (Same.of_below hwB)))
            obtain ⟨s0, s1, s2, s3, s4, s5⟩ := HSIX.out
            have HCK := hide fun w' (hB' : Below w.heap.size w w') => ih M.2 a q a' q' w' (hpts.turn (Same.of_below hB') hB'.size) htx (HTAB.out _ hB')
            have HLB := hide fun w' => Label_run M.1 hls w'
            have HXX := hide (show strsV (LA ++ LC.take (i + 1)) = strsV (LA ++ LC.take i) ++ [.string (labelB M.1 ++ ⟨#[58, 32]⟩ ++ textF m M.2)] by
              rw [List.take_add_one, HLC.out i _ (List.getElem?_eq_getElem hlt'), ← List.append_assoc, strsV_append _ (Option.toList _), hMM]; rfl)
            have hts := textF_le m M.2
            have hlbs := labelB_size M.1
            unfold datV datCs at HCK
            obtain ⟨T, hT⟩ : ∃ T, T = textF m M.2 := ⟨_, rfl⟩
            rw [← hT] at HCK HXX hts
            obtain ⟨LB, hLB⟩ : ∃ T, T = labelB M.1 := ⟨_, rfl⟩
            rw [← hLB] at HLB HXX hlbs
            clear hlab hfive hpts hMM hlt' hb hbb HSIX hT hLB
            go_upto_region 10 with fail
            obtain ⟨wa, hwa⟩ : ∃ wa, wa = wr.alloc (Obj.cells #[Value.string M.1, Value.int IntKind.i64 (kD M.2), Value.int IntKind.i64 (nD M.2), Value.string (sD M.2), Value.slice a (iD M.2).length q, Value.slice a' (mD M.2).length q'] 50) := ⟨_, rfl⟩
            obtain ⟨b, hbb⟩ : ∃ b, b = wr.heap.size := ⟨_, rfl⟩
            have hR : Row wa b 50 [Value.string M.1, Value.int IntKind.i64 (kD M.2), Value.int IntKind.i64 (nD M.2), Value.string (sD M.2), Value.slice a (iD M.2).length q, Value.slice a' (mD M.2).length q'] := by rw [hwa, hbb]; exact Row.new wr _ _
            have HBA := hide (show Below w1.heap.size w1 wa by rw [hwa]; exact below_al hB.out _)
            have HOA := hide (show wa.ownsRow w1.heap.size 9 1 u3 (x + i) (strsV (LA ++ LC.take i)) by rw [hwa]; exact hO.out.alloc _)
            have hS0 : w1.heap.size ≤ wa.heap.size := HBA.out.size
            rw [← hwa, ← hbb]
            have HS := hide fun W (h : Below wa.heap.size wa W) => row6 (hR.below h)
            have HR := hide hR
            have HWB := hide fun W (h : Below wa.heap.size wa W) => HBL.out.trans ((HBA.out.trans (h.mono HBA.out.size)).mono HBL.out.size)
            obtain ⟨d0, d1, d2, d3, d4, d5⟩ := HS.out _ (Below.refl _ _)
            clear hwa hbb hR s0 s1 s2 s3 s4 s5 hB hO hwB
            go_region_held_law (fun W => W.cell? ⟨b, 0, none⟩ = some (.string M.1) ∧ W.cell? ⟨b, 1, none⟩ = some (.int .i64 (kD M.2)) ∧ W.cell? ⟨b, 2, none⟩ = some (.int .i64 (nD M.2)) ∧ W.cell? ⟨b, 3, none⟩ = some (.string (sD M.2)) ∧
                W.cell? ⟨b, 4, none⟩ = some (.slice a (iD M.2).length q) ∧ W.cell? ⟨b, 5, none⟩ = some (.slice a' (mD M.2).length q'))
              (first
                | exact row6 (((HR.out.below hB5).alloc _).grown o2.out (own_row_ne HOA.out HR.out (by decide)).symm)
                | exact HS.out _ (below_al (((Below.refl _ _).drew.trans hB3).trans (hB4.mono hB3.size)) _)
                | exact HS.out _ (((Below.refl _ _).drew.trans hB3).trans (hB4.mono hB3.size))
                | exact HS.out _ ((Below.refl _ _).drew.trans hB3)
                | exact HS.out _ (Below.refl _ _).drew)
              (first
                | (go_at_call 62; refine (HLB.out _).mono ?_; rintro e w3 ⟨rfl, hB3⟩)
                | (go_at_call 53; refine (HCK.out _ (HWB.out _ ((Below.refl _ _).drew.trans hB3))).mono ?_; rintro e w4 ⟨rfl, hB4⟩; have hB5 := ((Below.refl _ _).drew.trans hB3).trans (hB4.mono hB3.size); have hS5 := hB5.size)
                | (refine step_append_all _ rfl (.tmp 28) (.tmp 37) _ rfl w1.heap.size 9 i0 _ 1 16 Tryd.underlying70 hi0 hz0 hz1 hz2 rfl (by omega) u3 (x + i) (strsV (LA ++ LC.take i)) rfl ((own_below HOA.out hB5).alloc _) (some ⟨w4.heap.size, 0, none⟩) 1 1 [.string (LB ++ ⟨#[58, 32]⟩ ++ T)] rfl (by intro h; cases h) rfl (by intro ad' h; injection h with h; subst h; exact World.news_of_block (heap_alloc_new _ _)) one_str (by unfold maxLen; omega) (by omega) (by simp; omega) ?_; intro v' w' o1 o2))
            all_goals
              have HB5 := hide (Below.grown (below_al (HBA.out.trans (hB5.mono hS0)) (.cells #[.string (LB ++ ⟨#[58, 32]⟩ ++ T)] 9)) o2.out (by simp; omega) (fun k e => (HOA.out.lt k e).1))
              have HO5 := hide (show w'.ownsRow w1.heap.size 9 1 v' (x + (i + 1)) (strsV (LA ++ LC.take (i + 1))) by rw [HXX.out]; exact o1.out)
              clear o1 o2 HBA hB5 hB3 hB4 HS HR HOA HWB HCK HLB HXX d0 d1 d2 d3 d4 d5
              go_wp2_with fail
              go_roundw
              case rel => exact ⟨i + 1, by go_num, by omega, HB5, HO5⟩
              case measure => simp [intOf]; omega
          · obtain rfl : y = i := by omega
            obtain ⟨c0, c1, c2, c3, c4⟩ := HC.out _ hB.out
            have HJ := hide fun o e w' (ho : ByteArray.size o = 1) (he : ByteArray.size e = 1) (h : Below wr.heap.size wr w') => join_run o e u3 L w1.heap.size w' (by
              have h1 := own_below hO.out h
              have e1 : LC.take y = LC := by rw [HY.out, ← HLCL.out, List.take_length]
              rw [e1, ← HL.out] at h1
              have e2 : L.length = x + y := by rw [HL.out, List.length_append, HLAL.out, HLCL.out, ← HX.out, ← HY.out]
              rw [e2]; exact h1) ho he HPL.out
            have HB := hide hwB
            clear hO hB hwB HX HY HLA HLC HLAL HLCL HL HPL
            by_cases k2 : k = 2
            · subst k2
              by_cases n1 : n = 1
              · subst n1
                have HZ := hide (show res = ⟨#[116, 114, 117, 101]⟩ by rw [HRES.out]; rfl)
                go_wp2_with fail
                go_ret
                exact ⟨ret_str HZ.out.symm, HB.out⟩
              · have HZ := hide (show res = ⟨#[102, 97, 108, 115, 101]⟩ by rw [HRES.out]; unfold textK; rw [if_pos rfl, if_neg n1])
                have g1 : (n == 1) = false := by simpa using n1
                go_wp2_with fail
                go_ret
                exact ⟨ret_str HZ.out.symm, HB.out⟩
            · have g2 : (k == 2) = false := by simpa using k2
              by_cases k3 : k = 3
              · subst k3
                have HZ := hide (show res = numB n by rw [HRES.out]; rfl)
                go_wp2_with fail
                refine (HN.out _ (HTAB.out _ HB.out)).mono ?_; rintro e w4 ⟨rfl, hB4⟩
                have HB4 := hide (HB.out.trans (hB4.mono HB.out.size))
                clear hB4
                go_wp2_with fail
                go_ret
                exact ⟨ret_str HZ.out.symm, HB4.out⟩
              · have g3 : (k == 3) = false := by simpa using k3
                by_cases k4 : k = 4
                · subst k4
                  have HZ := hide (show res = quoteB s by rw [HRES.out]; rfl)
                  go_wp2_with fail
                  refine (HQ.out _).mono ?_; rintro e w4 ⟨rfl, hB4⟩
                  have HB4 := hide (HB.out.trans (hB4.mono HB.out.size))
                  clear hB4
                  go_wp2_with fail
                  go_ret
                  exact ⟨ret_str HZ.out.symm, HB4.out⟩
                · have g4 : (k == 4) = false := by simpa using k4
                  by_cases k5 : k = 5
                  · subst k5
                    have HZ := hide (show res = joinB ⟨#[91]⟩ ⟨#[93]⟩ L by rw [HRES.out]; rfl)
                    go_wp2_with fail
                    refine (HJ.out ⟨#[91]⟩ ⟨#[93]⟩ _ rfl rfl (Below.refl _ _)).mono ?_; rintro e w4 ⟨rfl, hB4⟩
                    have HB4 := hide (HB.out.trans (hB4.mono HB.out.size))
                    clear hB4
                    go_wp2_with fail
                    go_ret
                    exact ⟨ret_str HZ.out.symm, HB4.out⟩
                  · have g5 : (k == 5) = false := by simpa using k5
                    by_cases k6 : k = 6
                    · subst k6
                      have HZ := hide (show res = joinB ⟨#[123]⟩ ⟨#[125]⟩ L by rw [HRES.out]; rfl)
                      go_wp2_with fail
                      refine (HJ.out ⟨#[123]⟩ ⟨#[125]⟩ _ rfl rfl (Below.refl _ _)).mono ?_; rintro e w4 ⟨rfl, hB4⟩
                      have HB4 := hide (HB.out.trans (hB4.mono HB.out.size))
                      clear hB4
                      go_wp2_with fail
                      go_ret
                      exact ⟨ret_str HZ.out.symm, HB4.out⟩
                    · have g6 : (k == 6) = false := by simpa using k6
                      have HZ := hide (show res = ⟨#[110, 117, 108, 108]⟩ by rw [HRES.out]; unfold textK; rw [if_neg k2, if_neg k3, if_neg k4, if_neg k5, if_neg k6])
                      go_wp2_with fail
                      go_ret
                      exact ⟨ret_str HZ.out.symm, HB.out⟩
end Go.Proofs.YtmmbbndoimleaaaDoor

/- Text of package data. -/
namespace Go.Proofs.YtmmbbndoimleaaaDoor
open Go.RowKit

def textD (m : Nat) (d : Dt) : ByteArray := if checkD d = 0 then textF m d else ByteArray.empty
set_option maxRecDepth 20000 in
theorem Text_run (m : Nat) (d : Dt) (A : Option Addr) (c : Nat) (A' : Option Addr) (c' : Nat) (w : World) (hp : Parts w w.heap.size m d A c A' c') (hf : FitD 16 d) (hb : tbF m d ≤ 1000000000) (ht : Tab w) :
    Calls Tryd.prog 42 #[datV d A c A' c'] w fun e w' => e = .returned (.tuple #[.string (textD m d), .int .i64 (checkD d)]) ∧ Below w.heap.size w w' := by
  have HC := hide fun w' (hB : Below w.heap.size w w') => Check_run m d A c A' c' w' (hp.turn (Same.of_below hB) hB.size) hf
  have HT := hide fun w' (hB : Below w.heap.size w w') => text_run m d A c A' c' w' (hp.turn (Same.of_below hB) hB.size) hb (tab_below ht hB)
  unfold textD
  obtain ⟨z, hz⟩ : ∃ z, z = checkD d := ⟨_, rfl⟩
  rw [← hz] at HC ⊢
  obtain ⟨T, hT⟩ : ∃ z, z = textF m d := ⟨_, rfl⟩
  rw [← hT] at HT ⊢
  unfold datV datCs at HC HT
  unfold datV datCs
  obtain ⟨h1, h2, h3, h4⟩ := hp.lens
  have hm := maxLen_le h2; have hm' := maxLen_le h4
  obtain ⟨k, hk⟩ : ∃ k, k = kD d := ⟨_, rfl⟩
  obtain ⟨n, hn'⟩ : ∃ k, k = nD d := ⟨_, rfl⟩
  obtain ⟨s, hs⟩ : ∃ k, k = sD d := ⟨_, rfl⟩
  obtain ⟨x, hx⟩ : ∃ k, k = (iD d).length := ⟨_, rfl⟩
  obtain ⟨y, hy⟩ : ∃ k, k = (mD d).length := ⟨_, rfl⟩
  rw [← hk, ← hn', ← hs, ← hx, ← hy] at HC HT ⊢
  rw [← hx] at h1
  rw [← hy] at h3
  clear hp hf hb ht hz hT hk hn' hs hx hy h2 h4
  go_enter Tryd.func42, Tryd.ntmps42
  go_upto_region 1 with fail
  obtain ⟨w1, g, e1, e2, hBL, c0, c1, c2, c3, c4, hROW⟩ := boxD w k n s (.slice A x c) (.slice A' y c')
  rw [e1, e2]
  have HBL := hide hBL; have HROW := hide hROW
  clear e1 e2 hBL hROW
  go_wp2_with fail
  refine (HC.out _ HBL.out).mono ?_; rintro e w2 ⟨rfl, hB2⟩
  obtain ⟨c0', c1', c2', c3', c4'⟩ := row5 (HROW.out.below hB2)
  have HB2 := hide (HBL.out.trans (hB2.mono HBL.out.size))
  clear c0 c1 c2 c3 c4 hB2 HROW HBL HC
  by_cases hz : z = 0
  · subst hz
    go_wp2_with fail
    refine (HT.out _ HB2.out).mono ?_; rintro e w3 ⟨rfl, hB3⟩
    have HB3 := hide (HB2.out.trans (hB3.mono HB2.out.size))
    clear hB3
    go_wp2_with fail
    go_ret2
    exact ⟨rfl, HB3.out⟩
  · have g1 : (z != 0) = true := by simpa using hz
    go_wp2_with fail
    go_ret2
    exact ⟨by first | rfl | (rw [if_neg hz]; rfl) | (simp [hz]; rfl), HB2.out⟩
end Go.Proofs.YtmmbbndoimleaaaDoor

/- Writing JSON, plain: strings, lines, values. -/
namespace Go.Proofs.YtmmbbndoimleaaaDoor
open Go.RowKit

/-- The letter of a short escape, or 0. -/
def jshN (c : Nat) : Nat := if c = 34 ∨ c = 92 then c else if c = 8 then 98 else if c = 9 then 116 else if c = 10 then 110 else if c = 12 then 102 else if c = 13 then 114 else 0
/-- What stands for a byte. -/
def jqL (c : Nat) : List UInt8 :=
  if jshN c ≠ 0 then [92, UInt8.ofNat (jshN c)] else if c < 32 ∨ 126 < c then [92, 117, 48, 48, hexN (c / 16), hexN (c % 16)] else [UInt8.ofNat c]
def jqS (l : List UInt8) : List UInt8 := l.flatMap fun b => jqL b.toNat
/-- A string in quotes. -/
def jqB (S : ByteArray) : ByteArray := ⟨(34 :: (jqS S.data.toList ++ [34])).toArray⟩
/-- What separates items. -/
def lineB (b : Bool) (lv : Nat) : ByteArray := if b = true then ⟨(10 :: List.replicate lv 9).toArray⟩ else ByteArray.empty
def colB (b : Bool) : ByteArray := if b = true then ⟨#[58, 32]⟩ else ⟨#[58]⟩
def openB (k : Int) : ByteArray := if k = 6 then ⟨#[123]⟩ else ⟨#[91]⟩
def shutB (k : Int) : ByteArray := if k = 6 then ⟨#[125]⟩ else ⟨#[93]⟩
def joinC (l : List ByteArray) : ByteArray := ⟨(Lib.join (l.map (·.data.toList)) [44]).toArray⟩
def wrapB (b : Bool) (lv : Nat) (k : Int) (L : List ByteArray) : ByteArray := if L.length = 0 then openB k ++ shutB k else openB k ++ joinC L ++ lineB b lv ++ shutB k
def jpartI (b : Bool) (lv : Nat) (f : Dt → ByteArray) (x : Dt) : ByteArray := lineB b (lv + 1) ++ f x
def jpartM (b : Bool) (lv : Nat) (f : Dt → ByteArray) (x : ByteArray × Dt) : ByteArray := lineB b (lv + 1) ++ jqB x.1 ++ colB b ++ f x.2
def jparts (b : Bool) (lv : Nat) (f : Dt → ByteArray) (d : Dt) : List ByteArray := (iD d).map (jpartI b lv f) ++ (mD d).map (jpartM b lv f)
/-- The text of data at a level. -/
def jtF (b : Bool) : Nat → Nat → Dt → ByteArray
  | 0, _, _ => ByteArray.empty
  | m + 1, lv, d => if kD d = 4 then jqB (sD d) else if kD d = 1 ∨ kD d = 2 ∨ kD d = 3 then textD (m + 1) d else wrapB b lv (kD d) (jparts b lv (jtF b m (lv + 1)) d)
/-- A bound for the text, and for all that is made on the way. -/
def jbF : Nat → Dt → Nat
  | 0, _ => 200
  | m + 1, d => 200 + 6 * (sD d).size + tbF (m + 1) d + sumN (fun x => 100 + jbF m x) (iD d) + sumN (fun x : ByteArray × Dt => 100 + 6 * x.1.size + jbF m x.2) (mD d)

theorem jqL_len (c : Nat) : (jqL c).length ≤ 6 := by unfold jqL; split; simp; split <;> simp
theorem jqS_len : ∀ l : List UInt8, (jqS l).length ≤ 6 * l.length
  | [] => by simp [jqS]
  | b :: l => by
    have h1 := jqL_len b.toNat
    have h2 := jqS_len l
    unfold jqS at h2 ⊢
    rw [List.flatMap_cons, List.length_append, List.length_cons]; omega
theorem jqB_size (S : ByteArray) : (jqB S).size ≤ 2 + 6 * S.size := by
  have h := jqS_len S.data.toList
  have h2 : S.data.toList.length = S.size := Array.length_toList
  show (34 :: (jqS S.data.toList ++ [34])).toArray.size ≤ _
  rw [List.size_toArray, List.length_cons, List.length_append, List.length_singleton]; omega
theorem lineB_size (b : Bool) (lv : Nat) : (lineB b lv).size ≤ lv + 1 := by
  unfold lineB; split
  · show (10 :: List.replicate lv 9 : List UInt8).toArray.size ≤ _; simp
  · show 0 ≤ _; omega
theorem colB_size (b : Bool) : (colB b).size ≤ 2 := by cases b <;> decide
theorem openB_size (k : Int) : (openB k).size = 1 := by unfold openB; split <;> rfl
theorem shutB_size (k : Int) : (shutB k).size = 1 := by unfold shutB; split <;> rfl
theorem joinC_len (l : List ByteArray) : (Lib.join (l.map (·.data.toList)) [44]).length ≤ sumN (fun x => x.size + 1) l := by
  cases l with
  | nil => simp [Lib.join_nil]
  | cons x l =>
    rw [List.map_cons, Lib.join_length]
    show _ + Lib.lens ((x :: l).map (fun y : ByteArray => y.data.toList)) ≤ _
    rw [lens_sumN]
    have : ∀ k : List ByteArray, sumN (fun x => x.size + 1) k = sumN (·.size) k + k.length := by
      intro k
      induction k with
      | nil => rfl
      | cons y k ih => rw [sumN, sumN, ih, List.length_cons]; omega
    rw [this]; simp; omega
theorem joinC_size (l : List ByteArray) : (joinC l).size ≤ sumN (fun x => x.size + 1) l := by
  have h := joinC_len l
  unfold joinC
  show (Lib.join (l.map (·.data.toList)) [44]).toArray.size ≤ _
  simpa using h
theorem textD_size (m : Nat) (d : Dt) : (textD m d).size ≤ tbF m d := by
  have := textF_le m d
  unfold textD; split
  · omega
  · show 0 ≤ _; omega
theorem firstE_all {f : Dt → Int} : ∀ {l : List Dt}, firstE f l = 0 → ∀ x ∈ l, f x = 0
  | y :: l, h, x, hx => by
    unfold firstE at h
    split at h
    · rename_i hy
      rcases List.mem_cons.1 hx with rfl | hx
      · exact hy
      · exact firstE_all h x hx
    · rename_i hy; exact absurd h hy
/-- The parts of valid data are valid, a level less. -/
theorem valid_kid {r : Nat} {d : Dt} (h : checkF r d = 0) : ∃ r', r = r' + 1 ∧ ownD d = 0 ∧ ∀ x ∈ kids d, checkF r' x = 0 := by
  cases r with
  | zero => exact absurd (show (9 : Int) = 0 from h) (by decide)
  | succ r =>
    unfold checkF at h
    split at h
    · rename_i ho; exact ⟨r, rfl, ho, firstE_all h⟩
    · rename_i ho; exact absurd h ho
/-- The fields of valid data. -/
theorem valid_fields {d : Dt} (h : ownD d = 0) : (1 ≤ kD d ∧ kD d ≤ 6) ∧ (kD d = 2 ∨ kD d = 3 ∨ nD d = 0) ∧ (kD d = 4 ∨ (sD d).toList = []) ∧ (kD d = 5 ∨ iD d = []) ∧ (kD d = 6 ∨ mD d = []) ∧ ascB (mD d) = true := by
  unfold ownD at h
  split at h
  · exact absurd h (by decide)
  · rename_i h1
    split at h
    · exact absurd h (by decide)
    · split at h
      · exact absurd h (by decide)
      · rename_i h3
        have hp : plainB d = true := by simpa using h1
        have ha : ascB (mD d) = true := by simpa using h3
        unfold plainB plainQ at hp
        simp at hp
        obtain ⟨⟨⟨⟨h0, h1⟩, h2⟩, h3⟩, h4⟩ := hp
        exact ⟨h0, by omega, h2, h3, h4, ha⟩
theorem leaf_fit {d : Dt} (hi : iD d = []) (hm : mD d = []) : FitD 16 d := by
  have e : kids d = [] := by unfold kids; rw [hi, hm]; rfl
  unfold FitD
  rw [e]
  exact ⟨by simp, fun x hx => by simp at hx⟩
/-- All parts are no longer than the bound. -/
theorem jparts_le (b : Bool) (m lv : Nat) (hlv : lv ≤ 20) (f : Dt → ByteArray) (d : Dt) (hf : ∀ x ∈ kids d, (f x).size ≤ jbF m x) : 200 + 6 * (sD d).size + tbF (m + 1) d + sumN (fun x => x.size + 50) (jparts b lv f d) ≤ jbF (m + 1) d := by
  unfold jparts
  rw [sumN_append, sumN_map, sumN_map, jbF]
  have h1 : sumN (fun x => (jpartI b lv f x).size + 50) (iD d) ≤ sumN (fun x => 100 + jbF m x) (iD d) := sumN_mono fun x hx => by
    unfold jpartI
    rw [bsize_append]
    have := lineB_size b (lv + 1)
    have := hf x (is_kid hx)
    omega
  have h2 : sumN (fun x => (jpartM b lv f x).size + 50) (mD d) ≤ sumN (fun x : ByteArray × Dt => 100 + 6 * x.1.size + jbF m x.2) (mD d) := sumN_mono fun x hx => by
    unfold jpartM
    rw [bsize_append, bsize_append, bsize_append]
    have := lineB_size b (lv + 1)
    have := jqB_size x.1
    have := colB_size b
    have := hf x.2 (ms_kid hx)
    omega
  omega
theorem wrapB_size (b : Bool) (lv : Nat) (k : Int) (L : List ByteArray) : (wrapB b lv k L).size ≤ 3 + lv + sumN (fun x => x.size + 1) L := by
  have h1 := joinC_size L
  have h2 := lineB_size b lv
  unfold wrapB
  split
  · rw [bsize_append, openB_size, shutB_size]; omega
  · rw [bsize_append, bsize_append, bsize_append, openB_size, shutB_size]; omega
theorem jtF_le (b : Bool) : ∀ (m r lv : Nat) (d : Dt), lv + r ≤ 20 → checkF r d = 0 → (jtF b m lv d).size ≤ jbF m d
  | 0, r, lv, d, _, _ => by rw [jtF, jbF]; show 0 ≤ _; omega
  | m + 1, r, lv, d, hlv, hc => by
    obtain ⟨r', rfl, _, hk⟩ := valid_kid hc
    have h := jparts_le b m lv (by omega) (jtF b m (lv + 1)) d (fun x hx => jtF_le b m r' (lv + 1) x (by omega) (hk x hx))
    rw [jtF]
    split
    · have := jqB_size (sD d); omega
    split
    · have := textD_size (m + 1) d; omega
    · have h1 := wrapB_size b lv (kD d) (jparts b lv (jtF b m (lv + 1)) d)
      have h2 : sumN (fun x : ByteArray => x.size + 1) (jparts b lv (jtF b m (lv + 1)) d) ≤ sumN (fun x => x.size + 50) (jparts b lv (jtF b m (lv + 1)) d) := sumN_mono fun x _ => by omega
      omega
end Go.Proofs.YtmmbbndoimleaaaDoor

/- A region that draws its order and ends in operations of one forced order: the head under a condition that the tail may break. -/
namespace Go.Proofs.YtmmbbndoimleaaaDoor
open Go.RowKit

section
variable {P : Program} {md : Region.Mode} {l : List Oper} {n : Nat} {Q : Exit → Act → World → Prop} {S : World → Prop}
/-- The post of the head: the tail, one operation behind the other. -/
def TailPost (P : Program) (l : List Oper) (n : Nat) (Q : Exit → Act → World → Prop) : Exit → Act → World → Prop
  | .normal, a, w => wpList P l.toArray Q (l.drop n) a w
  | e, a, w => Q e a w
theorem tp_wp {o : Oper} {a : Act} {w : World} {K : Act → World → Prop} (h : o.wp P a w K (TailPost P l n Q)) : o.wp P a w K Q := by
  unfold Oper.wp at *
  generalize (execOp a.eval o).run P w = r at *
  cases r with
  | ok x w' =>
    cases x <;> simp only [Oper.upon] at h ⊢ <;>
      first
        | exact h
        | exact Calls.mono h (fun e w'' he => by cases e <;> exact he)
  | halt x w' => cases x <;> simp only [Oper.upon] at h ⊢ <;> exact h
theorem tp_out (h : LetsOut (TailPost P l n Q)) : LetsOut Q := h
theorem any_more : ∀ (f : Nat) (listed : Array Bool) (a : Act) (w : World), wpAny P md l.toArray Q f listed a w → wpAny P md l.toArray Q (f + 1) listed a w
  | 0, listed, a, w, h => ⟨fun _ => h.2, fun i hi => by rw [h.1] at hi; cases hi⟩
  | f + 1, listed, a, w, h => ⟨h.1, fun i hi => wpOp_mono (fun a' w' h' => any_more f _ a' w' h') (h.2 i hi)⟩
theorem any_add (f : Nat) : ∀ (g : Nat) (listed : Array Bool) (a : Act) (w : World), wpAny P md l.toArray Q f listed a w → wpAny P md l.toArray Q (g + f) listed a w
  | 0, _, _, _, h => by rw [Nat.zero_add]; exact h
  | g + 1, listed, a, w, h => by rw [show g + 1 + f = (g + f) + 1 by omega]; exact any_more _ _ _ _ (any_add f g listed a w h)
/-- Each operation waits only for those ahead of it. -/
def orderB (md : Region.Mode) (ops : Array Oper) (n : Nat) : Bool :=
  (List.range n).all fun i => ((ops[i]?).map fun o => o.after.all fun e => !Region.binds md e || decide (e.on < i)).getD false
def plainGuards (l : List Oper) : Bool := l.all fun o => match o.guard with | none => true | some _ => false
def headTailB (md : Region.Mode) (l : List Oper) (n : Nat) : Bool :=
  decide (n < l.length) && Region.sinkB md l.toArray n && Region.chainB md l.toArray n && orderB md l.toArray n && plainGuards (l.take n) && Region.seqB md l.toArray (l.length - n) n ((List.replicate n true ++ List.replicate (l.length - n) false).toArray)
/-- The head's list of what has come up, at the whole. -/
def full (g : Nat) (listed : Array Bool) : Array Bool := (listed.toList ++ List.replicate g false).toArray
theorem full_lt {g i : Nat} {listed : Array Bool} (b : Bool) (hi : i < listed.size) : (full g listed).getD i b = listed.getD i b := by
  unfold full
  simp only [Array.getD_eq_getD_getElem?, List.getElem?_toArray]
  rw [List.getElem?_append_left (by simpa using hi)]
  simp
theorem full_ge {g i : Nat} {listed : Array Bool} (hi : listed.size ≤ i) : (full g listed).getD i false = false := by
  unfold full
  simp only [Array.getD_eq_getD_getElem?, List.getElem?_toArray]
  rw [List.getElem?_append_right (by simpa using hi)]
  rcases Nat.lt_or_ge (i - listed.size) g with h | h
  · simp [h]
  · simp [Nat.not_lt.2 h]
theorem full_size (g : Nat) (listed : Array Bool) : (full g listed).size = listed.size + g := by unfold full; simp
theorem full_set {g i : Nat} {listed : Array Bool} (hi : i < listed.size) : full g (listed.setIfInBounds i true) = (full g listed).setIfInBounds i true := by
  unfold full
  apply Array.ext'
  simp [hi]
theorem getD_below {l : List Oper} {n j : Nat} (h : j < n) : (l.take n).toArray[j]? = l.toArray[j]? := by simp [h]
theorem ready_full {g : Nat} {listed : Array Bool} (hs : listed.size = n) {j : Nat} (hj : j < n) : j ∈ Region.ready md l.toArray (full g listed) ↔ j ∈ Region.ready md (l.take n).toArray listed := by
  rw [mem_ready, mem_ready, getD_below hj, full_lt true (by omega)]
  refine and_congr Iff.rfl ⟨fun ⟨o, h1, h2⟩ => ⟨o, h1, fun e he hb => ?_⟩, fun ⟨o, h1, h2⟩ => ⟨o, h1, fun e he hb => ?_⟩⟩
  · have := h2 e he hb
    rcases Nat.lt_or_ge e.on listed.size with h | h
    · rwa [full_lt false h] at this
    · rw [full_ge h] at this; cases this
  · have := h2 e he hb
    rcases Nat.lt_or_ge e.on listed.size with h | h
    · rwa [full_lt false h]
    · simp [Nat.not_lt.2 h] at this
theorem ready_lt {ops : Array Oper} {listed : Array Bool} {j : Nat} (h : j ∈ Region.ready md ops listed) : j < ops.size := by
  obtain ⟨_, o, ho, _⟩ := mem_ready.1 h
  exact (Array.getElem?_eq_some_iff.1 ho).1
theorem all_listed {ops : Array Oper} {listed : Array Bool} (hord : orderB md ops n = true) (hs : listed.size = n) (hr : ∀ j, j < n → j ∉ Region.ready md ops (listed)) : ∀ i, i < n → listed.getD i false = true := by
  intro i
  induction i using Nat.strongRecOn with
  | _ i ih =>
    intro hi
    cases hl : listed.getD i false with
    | true => rfl
    | false =>
      exfalso
      have h1 := List.all_eq_true.1 hord i (List.mem_range.2 hi)
      cases ho : ops[i]? with
      | none => rw [ho] at h1; cases h1
      | some o =>
        rw [ho] at h1
        have h1 : (o.after.all fun e => !Region.binds md e || decide (e.on < i)) = true := h1
        refine hr i hi (mem_ready.2 ⟨getD_in (by omega) hl, o, ho, fun e he hb => ?_⟩)
        have h2 := Array.all_eq_true'.1 h1 e he
        rw [hb] at h2
        have h3 : e.on < i := by simpa using h2
        exact ih e.on h3 (by omega)
theorem any_of_headH (hB : headTailB md l n = true) : ∀ (f : Nat) (listed : Array Bool) (a : Act) (w : World), HeadInv md l.toArray n (full (l.length - n) listed) → listed.size = n →
    wpAnyH P md (l.take n).toArray (TailPost P l n Q) S f listed a w → wpAny P md l.toArray Q (f + (l.length - n)) (full (l.length - n) listed) a w := by
  unfold headTailB at hB
  simp only [Bool.and_eq_true, decide_eq_true_eq] at hB
  obtain ⟨⟨⟨⟨⟨hn, hsi⟩, hch⟩, hord⟩, hgu⟩, hseq⟩ := hB
  have hord2 : orderB md (l.take n).toArray n = true := by
    unfold orderB at hord ⊢
    rw [List.all_eq_true] at hord ⊢
    intro i hi
    rw [getD_below (List.mem_range.1 hi)]
    exact hord i hi
  have hend : ∀ (f : Nat) (listed : Array Bool) (a : Act) (w : World), listed.size = n → Region.ready md (l.take n).toArray listed = [] → wpList P l.toArray Q (l.drop n) a w → wpAny P md l.toArray Q (f + (l.length - n)) (full (l.length - n) listed) a w := by
    intro f listed a w hs hr h
    have hall := all_listed (listed := listed) hord2 hs (fun j _ => by rw [hr]; simp)
    have e : full (l.length - n) listed = (List.replicate n true ++ List.replicate (l.length - n) false).toArray := by
      have : listed.toList = List.replicate n true := by
        apply List.ext_getElem (by simp [hs])
        intro i h1 h2
        have h1' : i < listed.size := by simpa using h1
        have := hall i (by omega)
        simp [h1'] at this
        simpa using this
      unfold full; rw [this]
    have h2 := wpAny_of_seq (md := md) (Q' := Q) (l.drop n) n (full (l.length - n) listed) a w (fun j => by simp [List.getElem?_drop]) (by rw [List.length_drop, e]; exact hseq) h
    rw [List.length_drop] at h2
    exact any_add _ f _ _ _ h2
  intro f
  induction f with
  | zero =>
    intro listed a w _ hs h
    exact hend 0 listed a w hs h.1 h.2
  | succ f ih =>
    intro listed a w inv hs h
    cases hr : Region.ready md (l.take n).toArray listed with
    | nil => exact hend (f + 1) listed a w hs hr (h.1 hr)
    | cons i0 rs =>
      have hi0 : i0 ∈ Region.ready md (l.take n).toArray listed := by rw [hr]; exact List.mem_cons_self ..
      have hi0n : i0 < n := by have := ready_lt hi0; simp at this; omega
      have hun0 := (mem_ready.1 ((ready_full (g := l.length - n) hs hi0n).2 hi0)).1
      rw [show f + 1 + (l.length - n) = (f + (l.length - n)) + 1 by omega]
      refine ⟨fun h0 => ?_, fun j hj => ?_⟩
      · have := (ready_full (g := l.length - n) hs hi0n).2 hi0
        rw [h0] at this; cases this
      have hjn : j < n := by
        rcases Nat.lt_or_ge j n with h | h
        · exact h
        · exact absurd hj (tail_waits hsi hch (by simpa using hn) inv _ i0 rfl hi0n hun0 j h)
      have h1 := h.2 j ((ready_full hs hjn).1 hj)
      obtain ⟨_, o, ho, _⟩ := mem_ready.1 hj
      have hgo : o.guard = none := by
        have := List.all_eq_true.1 hgu o (by simpa using Array.mem_of_getElem? ((getD_below hjn).trans ho))
        revert this
        cases o.guard <;> simp
      have hw : ∀ y, Region.wanted o y = true := fun y => by simp [Region.wanted, hgo]
      unfold wpOp at h1 ⊢
      rw [getD_below hjn] at h1
      simp only [ho, hw, if_true] at h1 ⊢
      rcases h1 with h1 | h1
      · refine .inl (Oper.wp_mono (fun a' w' h' => ?_) (tp_wp h1))
        have h2 := ih (listed.setIfInBounds j true) a' w' (by rw [full_set (by omega)]; exact inv.set hj hjn) (by simp [hs]) h'.2
        rwa [full_set (by omega)] at h2
      · exact .inr ⟨h1.1, tp_out h1.2⟩
/-- A region in two parts: the head in whatever order, under S; the tail in its one order. -/
theorem region_two {id : Nat} {a : Act} {w : World} (n : Nat) (S : World → Prop) (hm : P.follows .mixedOrders = true) (hB : headTailB .any l n = true) (hS : S w.drew)
    (h : S w.drew → wpAnyH P .any (l.take n).toArray (TailPost P l n Q) S n (Array.replicate n false) a w.drew) : (Code.region id l.toArray true).wp P Q a w := by
  refine wp_region_any hm ?_
  have hn : n < l.length := by
    unfold headTailB at hB
    simp only [Bool.and_eq_true, decide_eq_true_eq] at hB
    exact hB.1.1.1.1.1
  have e : full (l.length - n) (Array.replicate n false) = Array.replicate l.length false := by
    unfold full
    apply Array.ext'
    simp [List.replicate_append_replicate, show n + (l.length - n) = l.length by omega]
  have inv : HeadInv .any l.toArray n (full (l.length - n) (Array.replicate n false)) := by
    rw [e]
    exact ⟨by simp, fun j oj _ hl => (by rw [getD_replicate_false] at hl; cases hl), fun t _ ht => getD_in (by simpa using ht) (getD_replicate_false _ _)⟩
  have := any_of_headH (P := P) (Q := Q) (S := S) hB n _ a w.drew inv (by simp) (h hS)
  rw [e, show n + (l.length - n) = l.length by omega] at this
  simpa using this
/-- An operation is taken first; its parts stand as letters, so that the frame behind it is written out. -/
theorem takeH {ops : Array Oper} {i : Nat} {d : Option Tmp} {op : Op} {ty : TypeId} {pos : String} {af : Array Edge} {gd : Option (Tmp × Bool)} {v : Value} {fuel : Nat} {listed : Array Bool} {a : Act} {w : World} (hi : ops[i]? = some ⟨d, op, ty, pos, af, gd⟩)
    (hs : Region.noSelect ops = true) (hf : Region.free md ops listed i = true) (hr : (Region.ready md ops listed).contains i = true)
    (hQ : ∀ c a w, Q (.panic c) (a.put d v) w → Q (.panic c) a w) (hy : YieldsIf P ops S ⟨d, op, ty, pos, af, gd⟩ v a) (hS : S w)
    (h : wpAnyH P md ops Q S fuel (listed.setIfInBounds i true) (a.put d v) w) : wpAnyH P md ops Q S (fuel + 1) listed a w := wpAnyH_take hi hs hf hr hQ hy hS h
/-- One operation alone may come up. -/
theorem oneH {ops : Array Oper} {i : Nat} {d : Option Tmp} {op : Op} {ty : TypeId} {pos : String} {af : Array Edge} {gd : Option (Tmp × Bool)} {fuel : Nat} {listed : Array Bool} {a : Act} {w : World} (hi : ops[i]? = some ⟨d, op, ty, pos, af, gd⟩) (hr : Region.ready md ops listed = [i])
    (h : ∀ K' : Act → World → Prop, Shut (∀ a w, S w → (S w → wpAnyH P md ops Q S fuel (listed.setIfInBounds i true) a w) → K' a w) → if Region.wanted ⟨d, op, ty, pos, af, gd⟩ (yielded ops a.tmps) = true then Oper.wp P ⟨d, op, ty, pos, af, gd⟩ a w K' Q else K' (a.put d undef) w) :
    wpAnyH P md ops Q S (fuel + 1) listed a w := wpAnyH_ready hr (by simp) (AllReadyH.cons hi h AllReadyH.nil)
/-- Two operations may come up. -/
theorem twoH {ops : Array Oper} {i j : Nat} {d : Option Tmp} {op : Op} {ty : TypeId} {pos : String} {af : Array Edge} {gd : Option (Tmp × Bool)} {d' : Option Tmp} {op' : Op} {ty' : TypeId} {pos' : String} {af' : Array Edge} {gd' : Option (Tmp × Bool)} {fuel : Nat} {listed : Array Bool} {a : Act} {w : World} (hi : ops[i]? = some ⟨d, op, ty, pos, af, gd⟩) (hj : ops[j]? = some ⟨d', op', ty', pos', af', gd'⟩) (hr : Region.ready md ops listed = [i, j])
    (h : ∀ K' : Act → World → Prop, Shut (∀ a w, S w → (S w → wpAnyH P md ops Q S fuel (listed.setIfInBounds i true) a w) → K' a w) → if Region.wanted ⟨d, op, ty, pos, af, gd⟩ (yielded ops a.tmps) = true then Oper.wp P ⟨d, op, ty, pos, af, gd⟩ a w K' Q else K' (a.put d undef) w)
    (h' : ∀ K' : Act → World → Prop, Shut (∀ a w, S w → (S w → wpAnyH P md ops Q S fuel (listed.setIfInBounds j true) a w) → K' a w) → if Region.wanted ⟨d', op', ty', pos', af', gd'⟩ (yielded ops a.tmps) = true then Oper.wp P ⟨d', op', ty', pos', af', gd'⟩ a w K' Q else K' (a.put d' undef) w) :
    wpAnyH P md ops Q S (fuel + 1) listed a w := wpAnyH_ready hr (by simp) (AllReadyH.cons hi h (AllReadyH.cons hj h' AllReadyH.nil))
end
end Go.Proofs.YtmmbbndoimleaaaDoor

/- The parser in memory; next, digit, fail. -/
namespace Go.Proofs.YtmmbbndoimleaaaDoor
open Go.RowKit

/-- The parser's block. -/
def Pr (w : World) (g : Nat) (S : ByteArray) (i : Nat) : Prop := Row w g 42 [.string S, .int .i64 i]
/-- Nothing that stood has changed but for block g. -/
def Px (g : Nat) (w w' : World) : Prop := Below 0 w w' ∧ ∀ k, k < w.heap.size → k ≠ g → w'.heap[k]? = w.heap[k]?
section
variable {w w1 w2 : World} {g : Nat} {S : ByteArray} {i j : Nat}
theorem Px.refl : Px g w w := ⟨Below.refl _ _, fun _ _ _ => rfl⟩
theorem Px.trans (h : Px g w w1) (h' : Px g w1 w2) : Px g w w2 :=
  ⟨h.1.trans h'.1, fun k hk hn => (h'.2 k (Nat.lt_of_lt_of_le hk h.1.size) hn).trans (h.2 k hk hn)⟩
theorem Px.size (h : Px g w w1) : w.heap.size ≤ w1.heap.size := h.1.size
theorem Px.drewN (h : Px g w w1) (n : Nat) : Px g w (w1.drewN n) := ⟨below_drewN h.1 n, h.2⟩
theorem Px.drew (h : Px g w w1) : Px g w w1.drew := ⟨h.1.drew, h.2⟩
theorem Px.of_below (h : Below w.heap.size w w1) : Px g w w1 := ⟨h.mono (Nat.zero_le _), fun k hk _ => h.block k hk⟩
theorem Px.below (h : Px g w w1) (h' : Below w1.heap.size w1 w2) : Px g w w2 := h.trans (Px.of_below h')
theorem Px.alloc (h : Px g w w1) (o : Obj) : Px g w (w1.alloc o) := h.below ((Below.refl _ _).alloc (Nat.le_refl _) o)
theorem Px.set_ (h : Px g w w1) (i : Nat) (u : Value) : Px g w (w1.setCell ⟨g, i, none⟩ u) :=
  ⟨h.1.setCell (p := ⟨g, i, none⟩) (Nat.zero_le _) u, fun k hk hn => (Below.heap_setCell _ _ _ _ hn).trans (h.2 k hk hn)⟩
theorem Px.setFar (h : Px g w w1) {p : Addr} (hp : w.heap.size ≤ p.block) (u : Value) : Px g w (w1.setCell p u) :=
  ⟨h.1.setCell (p := p) (Nat.zero_le _) u, fun k hk hn => (Below.heap_setCell _ _ _ _ (by omega)).trans (h.2 k hk hn)⟩
theorem Px.grown (h : Px g w w1) {row : Option Nat} (hg : w1.grownBy w2 row) (hr : ∀ k, row = some k → w.heap.size ≤ k) : Px g w w2 :=
  ⟨h.1.grown hg (Nat.zero_le _) (fun k e => Nat.zero_le _), fun k hk hn => (hg.block k (Nat.lt_of_lt_of_le hk h.size) (fun e => by have := hr k e.symm; omega)).trans (h.2 k hk hn)⟩
/-- From a bound below the parser's block. -/
theorem Px.to_below {B : Nat} {w0 : World} (h0 : Below B w0 w) (h : Px g w w1) (hB : B ≤ w.heap.size) (hg : B ≤ g) : Below B w0 w1 :=
  h0.trans ⟨h.1.os, h.1.tape, h.1.output, h.1.size, fun k hk => h.2 k (by omega) (by omega)⟩
theorem Pr.lt (h : Pr w g S i) : g < w.heap.size := Row.lt h
theorem Pr.below (h : Pr w g S i) (hb : Below w.heap.size w w1) : Pr w1 g S i := Row.below h hb
theorem Pr.drewN (h : Pr w g S i) (n : Nat) : Pr (w.drewN n) g S i := h
theorem Pr.cells (h : Pr w g S i) : w.cell? ⟨g, 0, none⟩ = some (.string S) ∧ w.cell? ⟨g, 1, none⟩ = some (.int .i64 i) ∧ w.frozen? ⟨g, 1, none⟩ = false := ⟨h.cell 0, h.cell 1, h.frozen 1⟩
theorem Pr.set_ (h : Pr w g S i) (j : Nat) : Pr (w.setCell ⟨g, 1, none⟩ (.int .i64 j)) g S j := Row.set_ h 1 (.int .i64 j)
theorem Pr.other (h : Pr w g S i) {row : Option Nat} (hg : w.grownBy w1 row) (hr : some g ≠ row) : Pr w1 g S i := Row.grown h hg hr
end

/-- Where the parser stands. -/
def atOf (w : World) (g : Nat) : Nat := (intOf ((w.cell? ⟨g, 1, none⟩).getD undef)).toNat
theorem Pr.at_ {w : World} {g : Nat} {S : ByteArray} {i : Nat} (h : Pr w g S i) : atOf w g = i := by
  unfold atOf; rw [h.cells.2.1]; rfl
/-- The byte at a place, 0 behind the end. -/
def nx (S : ByteArray) (i : Nat) : Nat := if i < S.size then (S.get! i).toNat else 0
theorem nx_lt (S : ByteArray) (i : Nat) : nx S i < 256 := by unfold nx; split; exact (S.get! i).toNat_lt; omega
theorem nx_in {S : ByteArray} {i : Nat} (h : nx S i ≠ 0) : i < S.size := by
  unfold nx at h
  split at h
  · assumption
  · exact absurd rfl h
theorem get_bang {S : ByteArray} {i : Nat} (h : i < S.size) : S[i] = S.get! i := by
  simp [ByteArray.get!, h]
  rfl

set_option maxHeartbeats 1000000 in
theorem next_run (S : ByteArray) (g i : Nat) (w : World) (h : Pr w g S i) :
    Calls Tryd.prog 20 #[.pointer (some ⟨g, 0, none⟩)] w fun e w' => e = .returned (.int .u8 (nx S i)) ∧ ∃ n, w' = w.drewN n := by
  obtain ⟨c0, c1, _⟩ := h.cells
  clear h
  by_cases hlt : i < S.size
  · have e : nx S i = (S[i]).toNat := by unfold nx; rw [if_pos hlt, get_bang hlt]
    have HE := Lib.hid e
    rw [e]
    clear e
    go_enter Tryd.func20, Tryd.ntmps20
    go_wp2_with fail
    go_quiet (fail)
    go_wp2_with fail
    go_quiet (fail)
    go_wp2_with fail
    go_ret
    exact ⟨rfl, drew2 _ _ _⟩
  · have e : nx S i = 0 := by unfold nx; rw [if_neg hlt]
    rw [e]
    clear e
    go_enter Tryd.func20, Tryd.ntmps20
    go_wp2_with fail
    go_quiet (fail)
    go_wp2_with fail
    go_ret
    exact ⟨rfl, _, rfl⟩
/-- A fault as a panic's value. -/
def fV (f : Int × Int) : Value := .iface 44 (.agg #[.int .i64 f.1, .int .i64 f.2])
def digB (c : Nat) : Bool := decide (48 ≤ c) && decide (c ≤ 57)

theorem fail_run (p : Value) (e a : Int) (w : World) :
    Calls Tryd.prog 16 #[p, .int .i64 e, .int .i64 a] w fun r w' => r = .panicked [{ v := fV (e, a), recovered := false }] ∧ w = w' := by
  go_enter Tryd.func16, Tryd.ntmps16
  go_wp2_with fail
  exact ⟨rfl, rfl, rfl⟩
set_option maxHeartbeats 1000000 in
theorem digit_run (S : ByteArray) (g i : Nat) (w : World) (h : Pr w g S i) :
    Calls Tryd.prog 23 #[.pointer (some ⟨g, 0, none⟩)] w fun e w' => e = .returned (.bool (digB (nx S i))) ∧ ∃ n, w' = w.drewN n := by
  have HN := hide fun W (h : Pr W g S i) => next_run S g i W h
  have HP := hide h
  obtain ⟨c, hc⟩ : ∃ c, c = nx S i := ⟨_, rfl⟩
  have hc2 := nx_lt S i
  rw [← hc] at HN hc2 ⊢
  obtain ⟨b, hb⟩ : ∃ b, b = digB c := ⟨_, rfl⟩
  rw [← hb]
  unfold digB at hb
  have HB := Lib.hid hb
  clear hc hb h
  go_enter Tryd.func23, Tryd.ntmps23
  by_cases h1 : 48 ≤ c
  · have d1 : decide ((48 : Int) ≤ (c : Int)) = true := by simp; omega
    go_wp2_with fail
    refine (HN.out _ HP.out).mono ?_; rintro e w1 ⟨rfl, n1, rfl⟩
    go_wp2_with fail
    refine (HN.out _ (HP.out.drewN _)).mono ?_; rintro e w1 ⟨rfl, n2, rfl⟩
    go_wp2_with fail
    go_ret
    exact ⟨ret_bool (by rw [HB.out]; simp [h1]; omega), _, rfl⟩
  · have d1 : decide ((48 : Int) ≤ (c : Int)) = false := by simp; omega
    go_wp2_with fail
    refine (HN.out _ HP.out).mono ?_; rintro e w1 ⟨rfl, n1, rfl⟩
    go_wp2_with fail
    go_ret
    exact ⟨ret_bool (by rw [HB.out]; simp [h1]), _, rfl⟩
end Go.Proofs.YtmmbbndoimleaaaDoor

/- Reading JSON, plain: blanks, words, digits, numbers, escapes, strings, values. -/
namespace Go.Proofs.YtmmbbndoimleaaaDoor
open Go.RowKit

abbrev Flt := Int × Int
def blkB (c : Nat) : Bool := c == 32 || c == 9 || c == 10 || c == 13
/-- The place behind the bytes that q likes. -/
def runN (q : Nat → Bool) (S : ByteArray) : Nat → Nat → Nat
  | 0, i => i
  | n + 1, i => if q (nx S i) = true then runN q S n (i + 1) else i
def runF (q : Nat → Bool) (S : ByteArray) (i : Nat) : Nat := runN q S (S.size - i) i
theorem run_step {q : Nat → Bool} (h0 : q 0 = false) {S : ByteArray} {i : Nat} (h : q (nx S i) = true) : runF q S i = runF q S (i + 1) := by
  have hi : i < S.size := nx_in fun e => by rw [e, h0] at h; cases h
  unfold runF
  rw [show S.size - i = (S.size - (i + 1)) + 1 by omega, runN, if_pos h]
theorem run_stop {q : Nat → Bool} {S : ByteArray} {i : Nat} (h : q (nx S i) = false) : runF q S i = i := by
  unfold runF
  cases S.size - i with
  | zero => rfl
  | succ n => rw [runN, if_neg (by rw [h]; simp)]
theorem runN_ge (q : Nat → Bool) (S : ByteArray) : ∀ (n i : Nat), i ≤ runN q S n i
  | 0, _ => Nat.le_refl _
  | n + 1, i => by
    unfold runN
    split
    · have := runN_ge q S n (i + 1); omega
    · exact Nat.le_refl _
theorem runN_le (q : Nat → Bool) (S : ByteArray) : ∀ (n i : Nat), runN q S n i ≤ i + n
  | 0, _ => Nat.le_refl _
  | n + 1, i => by
    unfold runN
    split
    · have := runN_le q S n (i + 1); omega
    · omega
theorem run_ge (q : Nat → Bool) (S : ByteArray) (i : Nat) : i ≤ runF q S i := runN_ge q S _ i
theorem run_le (q : Nat → Bool) {S : ByteArray} {i : Nat} (h : i ≤ S.size) : runF q S i ≤ S.size := by
  have := runN_le q S (S.size - i) i
  unfold runF; omega
theorem run_end (q : Nat → Bool) (h0 : q 0 = false) (S : ByteArray) : ∀ (n i : Nat), S.size - i = n → q (nx S (runF q S i)) = false
  | 0, i, h => by
    have : nx S i = 0 := by unfold nx; rw [if_neg (by omega)]
    rw [run_stop (by rw [this]; exact h0), this]; exact h0
  | n + 1, i, h => by
    cases hq : q (nx S i) with
    | true => rw [run_step h0 hq]; exact run_end q h0 S n (i + 1) (by omega)
    | false => rw [run_stop hq]; exact hq
theorem runN_all (q : Nat → Bool) (S : ByteArray) : ∀ (n i m : Nat), i ≤ m → m < runN q S n i → q (nx S m) = true
  | 0, i, m, h1, h2 => by unfold runN at h2; omega
  | n + 1, i, m, h1, h2 => by
    unfold runN at h2
    split at h2
    · rcases Nat.eq_or_lt_of_le h1 with rfl | h
      · assumption
      · exact runN_all q S n (i + 1) m h h2
    · omega
theorem run_all {q : Nat → Bool} {S : ByteArray} {i m : Nat} (h1 : i ≤ m) (h2 : m < runF q S i) : q (nx S m) = true := runN_all q S _ i m h1 h2
abbrev blk (S : ByteArray) (i : Nat) : Nat := runF blkB S i
abbrev dge (S : ByteArray) (i : Nat) : Nat := runF digB S i
/-- A word that must stand here. -/
def wordF (S : ByteArray) : List UInt8 → Nat → Except Flt Nat
  | [], i => .ok i
  | c :: l, i => if nx S i = c.toNat then wordF S l (i + 1) else .error (19, i)
theorem word_len {S : ByteArray} : ∀ {l : List UInt8} {i j : Nat}, wordF S l i = .ok j → j = i + l.length
  | [], i, j, h => by injection h with h; simp; omega
  | c :: l, i, j, h => by
    unfold wordF at h
    split at h
    · have := word_len h; simp; omega
    · cases h
/-- So many digits from a place on, as a number. -/
def digN (S : ByteArray) (a : Nat) : Nat → Nat
  | 0 => 0
  | n + 1 => digN S a n * 10 + (nx S (a + n) - 48)
/-- Four decimal places of which those ahead of e stand. -/
def fracN (S : ByteArray) (a e u : Nat) : Nat → Nat
  | 0 => u
  | n + 1 => fracN S a e u n * 10 + (if a + n < e then nx S (a + n) - 48 else 0)
theorem dig_bounds {c : Nat} (h : digB c = true) : 48 ≤ c ∧ c ≤ 57 := by unfold digB at h; simpa using h
theorem digN_lt {S : ByteArray} {a : Nat} : ∀ (n : Nat), (∀ m, a ≤ m → m < a + n → digB (nx S m) = true) → digN S a n < 10 ^ n
  | 0, _ => by show 0 < 1; omega
  | n + 1, h => by
    have h1 := digN_lt n fun m h1 h2 => h m h1 (by omega)
    have h2 := dig_bounds (h (a + n) (by omega) (by omega))
    unfold digN
    rw [Nat.pow_succ]; omega
theorem digN_small {S : ByteArray} {a n : Nat} (h : ∀ m, a ≤ m → m < a + n → digB (nx S m) = true) (hn : n ≤ 15) : digN S a n < 1000000000000000 := by
  have h1 := digN_lt n h
  have h2 : 10 ^ n ≤ 10 ^ 15 := Nat.pow_le_pow_right (by decide) hn
  have h3 : (10 : Nat) ^ 15 = 1000000000000000 := by decide
  omega
theorem frac_mono (S : ByteArray) (a e u n : Nat) : ∀ k, fracN S a e u n ≤ fracN S a e u (n + k)
  | 0 => Nat.le_refl _
  | k + 1 => by
    have := frac_mono S a e u n k
    show _ ≤ fracN S a e u (n + k) * 10 + _
    omega
def numE (S : ByteArray) (i : Nat) : Except Flt (Int × Nat) :=
  let i1 := if nx S i = 45 then i + 1 else i
  if digB (nx S i1) = false then .error (19, i1) else
    let j := if nx S i1 = 48 then i1 + 1 else dge S i1
    if nx S j = 46 ∧ digB (nx S (j + 1)) = false then .error (19, (j + 1 : Nat)) else
      let e := if nx S j = 46 then dge S (j + 1) else j
      if 5 < e - j ∨ 15 < j - i1 then .error (1, i) else
        let u := fracN S (j + 1) e (digN S i1 (j - i1)) 4
        if 1000000000000000 < u then .error (1, i) else .ok (if i1 = i then (u : Int) else -(u : Int), e)
def hexV (c : Nat) : Option Nat := if digB c = true then some (c - 48) else if 97 ≤ c ∧ c ≤ 102 then some (c - 87) else if 65 ≤ c ∧ c ≤ 70 then some (c - 55) else none
/-- An escape; its backslash stands at i. -/
def escF (S : ByteArray) (i : Nat) : Except Flt (Nat × Nat) :=
  let c := nx S (i + 1)
  if c = 34 ∨ c = 92 ∨ c = 47 then .ok (c, i + 2)
  else if c = 98 then .ok (8, i + 2)
  else if c = 116 then .ok (9, i + 2)
  else if c = 110 then .ok (10, i + 2)
  else if c = 102 then .ok (12, i + 2)
  else if c = 114 then .ok (13, i + 2)
  else if c = 117 then
    match wordF S [48, 48] (i + 2) with
    | .error f => .error f
    | .ok j => match hexV (nx S j) with
      | none => .error (19, j)
      | some a => match hexV (nx S (j + 1)) with
        | none => .error (19, (j + 1 : Nat))
        | some b => .ok (16 * a + b, j + 2)
  else .error (19, (i + 1 : Nat))
/-- The rest of a string, so many places at most. -/
def strL (S : ByteArray) : Nat → Nat → ByteArray → Except Flt (ByteArray × Nat)
  | 0, i, _ => .error (19, i)
  | n + 1, i, o =>
    if nx S i = 34 then .ok (o, i + 1)
    else if nx S i = 92 then match escF S i with
      | .error f => .error f
      | .ok (c, j) => strL S n j (o.push (UInt8.ofNat c))
    else if S.size ≤ i ∨ nx S i < 32 ∨ 126 < nx S i then .error (19, i)
    else strL S n (i + 1) (o.push (UInt8.ofNat (nx S i)))
def strF (S : ByteArray) (i : Nat) : Except Flt (ByteArray × Nat) :=
  match wordF S [34] i with
  | .error f => .error f
  | .ok j => strL S (S.size + 1 - j) j ByteArray.empty
end Go.Proofs.YtmmbbndoimleaaaDoor

/- blanks, word. -/
namespace Go.Proofs.YtmmbbndoimleaaaDoor
open Go.RowKit Go.Shelf

theorem idx_blank : ∀ c : Fin 256, decide (0 ≤ Lib.indexByte [32, 9, 10, 13] c.val.toUInt8) = blkB c.val := by decide +kernel
theorem indexByte_run (s : ByteArray) (c : Nat) (w : World) :
    Calls Tryd.prog 19 #[.string s, .int .u8 c] w fun e w' => e = .returned (.int .i64 (Lib.indexByte s.data.toList c.toUInt8)) ∧ w' = w :=
  Any.strings_IndexByte indexByteL s c w

theorem nx_at {S : ByteArray} {i : Nat} (h : i < S.size) : nx S i = (S[i]).toNat := by unfold nx; rw [if_pos h, get_bang h]
theorem nx_past {S : ByteArray} {i : Nat} (h : ¬ i < S.size) : nx S i = 0 := by unfold nx; rw [if_neg h]
/-- What a call without results does to the parser. -/
def UPost (g : Nat) (S : ByteArray) (w : World) (j : Nat) (e : Ending) (w' : World) : Prop := e = .returned (.tuple #[]) ∧ Pr w' g S j ∧ Px g w w'
def FPost (g : Nat) (w : World) (f : Flt) (e : Ending) (w' : World) : Prop := e = .panicked [{ v := fV f, recovered := false }] ∧ Px g w w'

set_option maxRecDepth 20000 in
set_option maxHeartbeats 1000000 in
theorem blanks_run (S : ByteArray) (g i : Nat) (w : World) (h : Pr w g S i) (hS : S.size ≤ 1000000000) (hi : i ≤ S.size) :
    Calls Tryd.prog 14 #[.pointer (some ⟨g, 0, none⟩)] w (UPost g S w (blk S i)) := by
  obtain ⟨B, hB⟩ : ∃ b, b = blk S i := ⟨_, rfl⟩
  rw [← hB]
  have H0 := hide (show Pr w g S i ∧ Px g w w ∧ B = blk S i from ⟨h, Px.refl, hB⟩)
  clear h hB
  go_enter Tryd.func14, Tryd.ntmps14
  go_wp2_with fail
  go_loopw [2] (fun _ wr => ∃ k : Nat, k ≤ S.size ∧ Hid (Pr wr g S k ∧ Px g w wr ∧ B = blk S k)) (fun _ wr => S.size - atOf wr g)
  case atStart => exact ⟨i, hi, H0⟩
  case round =>
    clear H0
    obtain ⟨k, hk, hR⟩ := hrel
    obtain ⟨c0, c1, f1⟩ := hR.out.1.cells
    by_cases hlt : k < S.size
    · obtain ⟨c, hc⟩ : ∃ c, c = (S[k]).toNat := ⟨_, rfl⟩
      have hc2 : c < 256 := by rw [hc]; exact (S[k]).toNat_lt
      obtain ⟨r, hr⟩ : ∃ r, r = Lib.indexByte [32, 9, 10, 13] c.toUInt8 := ⟨_, rfl⟩
      have hb := idx_blank ⟨c, hc2⟩
      rw [← hr] at hb
      have HI := hide fun W => indexByte_run ⟨#[32, 9, 10, 13]⟩ c W
      rw [← hr] at HI
      have HC := hide (show nx S k = c by rw [hc]; exact nx_at hlt)
      have hS2 : (S[k]).toNat = c := hc.symm
      clear hr hc
      cases hq : blkB c with
      | true =>
        rw [hq] at hb
        have HN := hide (show B = blk S (k + 1) by rw [hR.out.2.2]; exact run_step rfl (by rw [HC.out]; exact hq))
        clear hq
        go_wp2_with fail
        go_quiet ((go_at_call 19; exact Calls.quiet_of_same (HI.out _)))
        go_wp2_with fail
        go_roundw
        case rel => exact ⟨k + 1, hlt, hide ⟨(hR.out.1.drewN _).set_ (k + 1), (hR.out.2.1.drewN _).set_ 1 _, HN.out⟩⟩
        case measure =>
          have e1 : atOf ((wr.drewN nq).setCell ⟨g, 1, none⟩ (.int .i64 ((k : Int) + 1))) g = k + 1 := ((hR.out.1.drewN nq).set_ (k + 1)).at_
          rw [e1, hR.out.1.at_]; omega
      | false =>
        rw [hq] at hb
        have HN := hide (show B = k by rw [hR.out.2.2]; exact run_stop (by rw [HC.out]; exact hq))
        clear hq
        go_wp2_with fail
        go_quiet ((go_at_call 19; exact Calls.quiet_of_same (HI.out _)))
        go_wp2_with fail
        go_end0
        exact ⟨rfl, by rw [HN.out]; exact hR.out.1.drewN _, hR.out.2.1.drewN _⟩
    · have HN := hide (show B = k by rw [hR.out.2.2]; exact run_stop (by rw [nx_past hlt]; rfl))
      go_wp2_with fail
      go_quiet (fail)
      go_wp2_with fail
      go_end0
      exact ⟨rfl, by rw [HN.out]; exact hR.out.1.drewN _, hR.out.2.1.drewN _⟩
/-- A call that goes on at a place, or ends in a fault. -/
def RPost (g : Nat) (S : ByteArray) (w : World) (r : Except Flt Nat) : Ending → World → Prop :=
  match r with
  | .ok j => UPost g S w j
  | .error f => FPost g w f
theorem drop_cons {l : List UInt8} {m : Nat} {c : UInt8} (h : l[m]? = some c) : l.drop m = c :: l.drop (m + 1) := by
  obtain ⟨h1, h2⟩ := List.getElem?_eq_some_iff.1 h
  rw [List.drop_eq_getElem_cons h1, h2]

set_option maxRecDepth 20000 in
set_option maxHeartbeats 1000000 in
theorem word_run (S W : ByteArray) (g i : Nat) (w : World) (h : Pr w g S i) (hi : i ≤ 2000000000) (hW : W.size ≤ 1000) :
    Calls Tryd.prog 21 #[.pointer (some ⟨g, 0, none⟩), .string W] w (RPost g S w (wordF S W.data.toList i)) := by
  obtain ⟨r, hr⟩ : ∃ r, r = wordF S W.data.toList i := ⟨_, rfl⟩
  rw [← hr]
  have HN := hide fun k V (h : Pr V g S k) => next_run S g k V h
  have HF := hide fun k V => fail_run (.pointer (some ⟨g, 0, none⟩)) 19 (k : Nat) V
  have H0 := hide (show Pr w g S (i + 0) ∧ Px g w w ∧ r = wordF S (W.data.toList.drop 0) (i + 0) from ⟨h, Px.refl, hr⟩)
  obtain ⟨N, hN⟩ : ∃ n, n = W.size := ⟨_, rfl⟩
  have HNN := Lib.hid hN
  rw [← hN] at hW
  have HLEN : W.data.toList.length = W.size := Array.length_toList
  have HLE := Lib.hid HLEN
  clear h hr hN HLEN
  go_enter Tryd.func21, Tryd.ntmps21
  go_wp2_with fail
  rw [← HNN.out]
  go_loopw [4, 7] (fun _ mv wr => ∃ m : Nat, mv = .int .i64 m ∧ m ≤ N ∧ Hid (Pr wr g S (i + m) ∧ Px g w wr ∧ r = wordF S (W.data.toList.drop m) (i + m))) (fun _ mv _ => N - (intOf mv).toNat)
  case atStart => exact ⟨0, rfl, Nat.zero_le _, H0⟩
  case round =>
    clear H0
    obtain ⟨m, rfl, hm, hR⟩ := hrel
    obtain ⟨c0, c1, f1⟩ := hR.out.1.cells
    by_cases hlt : m < N
    · have hlt' : m < W.size := by rw [← HNN.out]; exact hlt
      obtain ⟨c, hc⟩ : ∃ c, c = W[m] := ⟨_, rfl⟩
      have hcl : W.data.toList[m]? = some c := by
        rw [hc, List.getElem?_eq_getElem (by rw [HLE.out]; exact hlt')]; rfl
      have HD := hide (show r = if nx S (i + m) = c.toNat then wordF S (W.data.toList.drop (m + 1)) (i + m + 1) else .error (19, ((i + m : Nat) : Int)) by
        rw [hR.out.2.2, drop_cons hcl, wordF])
      obtain ⟨x, hx⟩ : ∃ x, x = nx S (i + m) := ⟨_, rfl⟩
      have HN1 := hide fun V (h : Pr V g S (i + m)) => HN.out (i + m) V h
      rw [← hx] at HN1 HD
      have hW2 : W[m] = c := hc.symm
      obtain ⟨y, hy⟩ : ∃ y, y = c.toNat := ⟨_, rfl⟩
      rw [← hy] at HD
      have HY := Lib.hid hy
      clear hx hc hcl hy
      go_wp2_with fail
      go_quiet ((go_at_call 20; exact Calls.quiet_of (HN1.out _ (hR.out.1.drewN _))))
      rw [← HY.out]
      by_cases hq : x = y
      · subst hq
        have HN2 := hide (show r = wordF S (W.data.toList.drop (m + 1)) (i + (m + 1)) by rw [HD.out, if_pos rfl]; rfl)
        clear HD HN HN1 HF
        go_wp2_with fail
        go_roundw
        case rel => exact ⟨m + 1, by go_num, hlt, hide ⟨(hR.out.1.drewN _).set_ (i + (m + 1)), (hR.out.2.1.drewN _).set_ 1 _, HN2.out⟩⟩
        case measure => simp [intOf]; omega
      · have g1 : ((x : Int) != (y : Int)) = true := by simp; omega
        have HN2 := hide (show r = .error (19, ((i + m : Nat) : Int)) by rw [HD.out, if_neg hq])
        clear HD HN HN1 hq
        go_wp2_with fail
        refine (HF.out (i + m) _).mono ?_; rintro e w1 ⟨rfl, rfl⟩
        go_wp2_with fail
        rw [HN2.out]
        exact ⟨rfl, rfl, hR.out.2.1.drewN _⟩
    · have HN2 := hide (show r = .ok (i + m) by
        rw [hR.out.2.2, List.drop_eq_nil_of_le (by rw [HLE.out, ← HNN.out]; omega)]; rfl)
      go_wp2_with fail
      go_end0
      rw [HN2.out]
      exact ⟨rfl, hR.out.1, hR.out.2.1⟩
end Go.Proofs.YtmmbbndoimleaaaDoor

/- hex, escape. -/
namespace Go.Proofs.YtmmbbndoimleaaaDoor
open Go.RowKit

def hexDigits : ByteArray := ⟨#[48, 49, 50, 51, 52, 53, 54, 55, 56, 57, 97, 98, 99, 100, 101, 102]⟩
def hexI (c : Nat) : Int := Lib.indexByte [48, 49, 50, 51, 52, 53, 54, 55, 56, 57, 97, 98, 99, 100, 101, 102] c.toUInt8
def hexR (c : Nat) : Nat × Bool := match hexV c with
  | some v => (v, true)
  | none => (0, false)
theorem hex_facts : ∀ c : Fin 256, (if 65 ≤ c.val ∧ c.val ≤ 70 then hexR c.val = (c.val - 55, true) else hexR c.val = if hexI c.val < 0 then (0, false) else ((hexI c.val).toNat, true)) ∧ -1 ≤ hexI c.val ∧ hexI c.val ≤ 15 := by decide +kernel

theorem ret_hex {a b : Int} {p q : Bool} (h1 : a = b) (h2 : p = q) : Ending.returned (.tuple #[.int .u8 a, .bool p]) = .returned (.tuple #[.int .u8 b, .bool q]) := by rw [h1, h2]
set_option maxHeartbeats 1000000 in
theorem hex_run (c : Nat) (hc : c < 256) (w : World) :
    Calls Tryd.prog 46 #[.int .u8 c] w fun e w' => e = .returned (.tuple #[.int .u8 (hexR c).1, .bool (hexR c).2]) ∧ w = w' := by
  obtain ⟨h1, h2, h3⟩ := hex_facts ⟨c, hc⟩
  have HI := hide (show Calls Tryd.prog 19 #[.string hexDigits, .int .u8 c] w fun e w' => e = .returned (.int .i64 (hexI c)) ∧ w' = w from indexByte_run hexDigits c w)
  simp only at h1 h2 h3
  obtain ⟨r, hr⟩ : ∃ r, r = hexI c := ⟨_, rfl⟩
  rw [← hr] at h1 h2 h3 HI
  obtain ⟨R, hR⟩ : ∃ r, r = hexR c := ⟨_, rfl⟩
  rw [← hR] at h1 ⊢
  clear hr hR
  unfold hexDigits at HI
  by_cases hu : 65 ≤ c ∧ c ≤ 70
  · rw [if_pos hu] at h1
    subst h1
    obtain ⟨u1, u2⟩ := hu
    go_enter Tryd.func46, Tryd.ntmps46
    go_wp2_with fail
    refine HI.out.mono ?_; rintro e w1 ⟨rfl, rfl⟩
    go_wp2_with fail
    go_ret2
    exact ⟨ret_hex (by omega) (by first | (simp; done) | (simp; omega)), rfl⟩
  · rw [if_neg hu] at h1
    by_cases hn : r < 0
    · rw [if_pos hn] at h1
      obtain rfl : r = -1 := by omega
      subst h1
      go_enter Tryd.func46, Tryd.ntmps46
      by_cases h65 : 65 ≤ c
      · have d1 : decide ((65 : Int) ≤ (c : Int)) = true := by simp; omega
        have d2 : decide ((c : Int) ≤ 70) = false := by simp; omega
        go_wp2_with fail
        refine HI.out.mono ?_; rintro e w1 ⟨rfl, rfl⟩
        go_wp2_with fail
        go_ret2
        exact ⟨ret_hex (by decide) rfl, rfl⟩
      · have d1 : decide ((65 : Int) ≤ (c : Int)) = false := by simp; omega
        go_wp2_with fail
        refine HI.out.mono ?_; rintro e w1 ⟨rfl, rfl⟩
        go_wp2_with fail
        go_ret2
        exact ⟨ret_hex (by decide) rfl, rfl⟩
    · rw [if_neg hn] at h1
      subst h1
      have d0 : (0 : Int) ≤ r := by omega
      go_enter Tryd.func46, Tryd.ntmps46
      by_cases h65 : 65 ≤ c
      · have d1 : decide ((65 : Int) ≤ (c : Int)) = true := by simp; omega
        have d2 : decide ((c : Int) ≤ 70) = false := by simp; omega
        go_wp2_with fail
        refine HI.out.mono ?_; rintro e w1 ⟨rfl, rfl⟩
        go_wp2_with fail
        go_ret2
        exact ⟨ret_hex (by omega) (by first | (simp; done) | (simp; omega)), rfl⟩
      · have d1 : decide ((65 : Int) ≤ (c : Int)) = false := by simp; omega
        go_wp2_with fail
        refine HI.out.mono ?_; rintro e w1 ⟨rfl, rfl⟩
        go_wp2_with fail
        go_ret2
        exact ⟨ret_hex (by omega) (by first | (simp; done) | (simp; omega)), rfl⟩
end Go.Proofs.YtmmbbndoimleaaaDoor

/- escape. -/
namespace Go.Proofs.YtmmbbndoimleaaaDoor
open Go.RowKit

def EPost (g : Nat) (S : ByteArray) (w : World) (r : Except Flt (Nat × Nat)) (e : Ending) (w' : World) : Prop :=
  match r with
  | .ok (c, j) => e = .returned (.int .u8 c) ∧ Pr w' g S j ∧ Px g w w'
  | .error f => FPost g w f e w'
theorem hex_small {c a : Nat} (h : hexV c = some a) : a < 16 := by
  unfold hexV at h
  split at h
  · rename_i hd; unfold digB at hd; simp at hd; injection h with h; omega
  · split at h
    · injection h with h; omega
    · split at h
      · injection h with h; omega
      · cases h
theorem hex_zero : hexV 0 = none := by decide

theorem or_zero : ∀ b : Fin 16, bits BinOp.or IntKind.u8 0 (b.val : Int) = (b.val : Int) := by decide +kernel

theorem or_shift : ∀ a b : Fin 16, bits BinOp.or IntKind.u8 ((a.val : Int) * 16) (b.val : Int) = ((16 * a.val + b.val : Nat) : Int) := by decide +kernel

set_option maxRecDepth 20000 in
set_option maxHeartbeats 4000000 in
theorem jescape_run (S : ByteArray) (g i : Nat) (w : World) (h : Pr w g S i) (hi : i ≤ 1000000000) :
    Calls Tryd.prog 33 #[.pointer (some ⟨g, 0, none⟩)] w (EPost g S w (escF S i)) := by
  obtain ⟨r, hr⟩ : ∃ r, r = escF S i := ⟨_, rfl⟩
  rw [← hr]
  unfold escF at hr
  have HN := hide fun k V (h : Pr V g S k) => next_run S g k V h
  have HF := hide fun k V => fail_run (.pointer (some ⟨g, 0, none⟩)) 19 (k : Nat) V
  obtain ⟨c0, c1, f1⟩ := h.cells
  have HP := hide h
  obtain ⟨c, hc⟩ : ∃ c, c = nx S (i + 1) := ⟨_, rfl⟩
  have hc2 := nx_lt S (i + 1)
  have HN1 := hide fun V (h : Pr V g S (i + 1)) => HN.out (i + 1) V h
  rw [← hc] at HN1 hr hc2
  simp only at hr
  have HR := Lib.hid hr
  clear hr hc h
  go_enter Tryd.func33, Tryd.ntmps33
  go_upto_region 2 with fail
  obtain ⟨wa, hwa⟩ : ∃ W, W = w.setCell ⟨g, 1, none⟩ (.int .i64 ((i : Int) + 1)) := ⟨_, rfl⟩
  have HP1 := hide (show Pr wa g S (i + 1) by rw [hwa]; exact HP.out.set_ (i + 1))
  have HX1 := hide (show Px g w wa by rw [hwa]; exact Px.refl.set_ 1 _)
  rw [← hwa]
  clear hwa HP c0 c1 f1
  go_wp2_with fail
  refine (HN1.out _ HP1.out).mono ?_; rintro e w1 ⟨rfl, n1, rfl⟩
  obtain ⟨c0, c1, f1⟩ := (HP1.out.drewN n1).cells
  have HP2 := hide (HP1.out.drewN n1)
  have HX2 := hide (HX1.out.drewN n1)
  obtain ⟨wb, hwb⟩ : ∃ W, W = wa.drewN n1 := ⟨_, rfl⟩
  rw [← hwb] at HP2 HX2 c0 c1 f1 ⊢
  clear hwb HP1 HX1
  by_cases h34 : c = 34
  · subst h34
    have HE := hide (show r = .ok (34, i + 2) from HR.out)
    clear HR
    go_wp2_with fail
    go_ret
    rw [HE.out]
    exact ⟨rfl, HP2.out.set_ (i + 2), HX2.out.set_ 1 _⟩
  by_cases h92 : c = 92
  · subst h92
    have HE := hide (show r = .ok (92, i + 2) from HR.out)
    clear HR
    go_wp2_with fail
    go_ret
    rw [HE.out]
    exact ⟨rfl, HP2.out.set_ (i + 2), HX2.out.set_ 1 _⟩
  by_cases h47 : c = 47
  · subst h47
    have HE := hide (show r = .ok (47, i + 2) from HR.out)
    clear HR
    go_wp2_with fail
    go_ret
    rw [HE.out]
    exact ⟨rfl, HP2.out.set_ (i + 2), HX2.out.set_ 1 _⟩
  by_cases h98 : c = 98
  · subst h98
    have HE := hide (show r = .ok (8, i + 2) from HR.out)
    clear HR
    go_wp2_with fail
    go_ret
    rw [HE.out]
    exact ⟨rfl, HP2.out.set_ (i + 2), HX2.out.set_ 1 _⟩
  by_cases h116 : c = 116
  · subst h116
    have HE := hide (show r = .ok (9, i + 2) from HR.out)
    clear HR
    go_wp2_with fail
    go_ret
    rw [HE.out]
    exact ⟨rfl, HP2.out.set_ (i + 2), HX2.out.set_ 1 _⟩
  by_cases h110 : c = 110
  · subst h110
    have HE := hide (show r = .ok (10, i + 2) from HR.out)
    clear HR
    go_wp2_with fail
    go_ret
    rw [HE.out]
    exact ⟨rfl, HP2.out.set_ (i + 2), HX2.out.set_ 1 _⟩
  by_cases h102 : c = 102
  · subst h102
    have HE := hide (show r = .ok (12, i + 2) from HR.out)
    clear HR
    go_wp2_with fail
    go_ret
    rw [HE.out]
    exact ⟨rfl, HP2.out.set_ (i + 2), HX2.out.set_ 1 _⟩
  by_cases h114 : c = 114
  · subst h114
    have HE := hide (show r = .ok (13, i + 2) from HR.out)
    clear HR
    go_wp2_with fail
    go_ret
    rw [HE.out]
    exact ⟨rfl, HP2.out.set_ (i + 2), HX2.out.set_ 1 _⟩
  have d34 : ((c : Int) == 34) = false := by simp; omega
  have d92 : ((c : Int) == 92) = false := by simp; omega
  have d47 : ((c : Int) == 47) = false := by simp; omega
  have d98 : ((c : Int) == 98) = false := by simp; omega
  have d116 : ((c : Int) == 116) = false := by simp; omega
  have d110 : ((c : Int) == 110) = false := by simp; omega
  have d102 : ((c : Int) == 102) = false := by simp; omega
  have d114 : ((c : Int) == 114) = false := by simp; omega
  by_cases h117 : c = 117
  · subst h117
    have HE := hide (show r = match wordF S [48, 48] (i + 2) with
      | .error f => .error f
      | .ok j => match hexV (nx S j) with
        | none => .error (19, (j : Int))
        | some a => match hexV (nx S (j + 1)) with
          | none => .error (19, ((j + 1 : Nat) : Int))
          | some b => .ok (16 * a + b, j + 2) from HR.out)
    clear HR h34 h92 h47 h98 h116 h110 h102 h114 HN1 d34 d92 d47 d98 d116 d110 d102 d114
    have HW := hide fun V (h : Pr V g S (i + 2)) => word_run S ⟨#[48, 48]⟩ g (i + 2) V h (by omega) (by decide)
    go_upto_region 20 with fail
    obtain ⟨wc, hwc⟩ : ∃ W, W = wb.setCell ⟨g, 1, none⟩ (.int .i64 ((i : Int) + 1 + 1)) := ⟨_, rfl⟩
    have HP3 := hide (show Pr wc g S (i + 2) by rw [hwc]; exact HP2.out.set_ (i + 2))
    have HX3 := hide (show Px g w wc by rw [hwc]; exact HX2.out.set_ 1 _)
    rw [← hwc]
    clear hwc HP2 HX2 c0 c1 f1
    obtain ⟨q, hq⟩ : ∃ q, q = wordF S [48, 48] (i + 2) := ⟨_, rfl⟩
    rw [← hq] at HE HW
    have HQ := Lib.hid hq
    clear hq
    go_wp2_with fail
    refine (HW.out _ HP3.out).mono ?_
    cases q with
    | error f =>
      rintro e w1 ⟨rfl, hx⟩
      have HE2 := hide (show r = .error f from HE.out)
      have HX4 := hide (HX3.out.trans hx)
      clear hx HE
      go_wp2_with fail
      rw [HE2.out]
      exact ⟨rfl, rfl, HX4.out⟩
    | ok j =>
      rintro e w1 ⟨rfl, hP, hx⟩
      have hj : j = i + 4 := word_len HQ.out.symm
      have hj2 : j ≤ 1000000004 := by omega
      have HE2 := hide (show r = match hexV (nx S j) with
        | none => .error (19, (j : Int))
        | some a => match hexV (nx S (j + 1)) with
          | none => .error (19, ((j + 1 : Nat) : Int))
          | some b => .ok (16 * a + b, j + 2) from HE.out)
      have HP4 := hide hP; have HX4 := hide (HX3.out.trans hx)
      clear hx hP HE HQ HW HP3 HX3 hj
      go_wp2_with fail
      go_loopw [4, 49] (fun nv iv wr => (nv = .int .u8 0 ∧ iv = .int .i64 0 ∧ Hid (Pr wr g S j ∧ Px g w wr)) ∨ (∃ a : Nat, nv = .int .u8 a ∧ iv = .int .i64 1 ∧ Hid (Pr wr g S (j + 1) ∧ Px g w wr ∧ hexV (nx S j) = some a)) ∨ (∃ a : Nat, nv = .int .u8 a ∧ iv = .int .i64 2 ∧ Hid (Pr wr g S (j + 1) ∧ Px g w wr ∧ r = .ok (a, j + 2)))) (fun _ iv _ => 2 - (intOf iv).toNat)
      case atStart => exact .inl ⟨rfl, rfl, hide ⟨HP4.out, HX4.out⟩⟩
      case round =>
        clear HP4 HX4
        rcases hrel with ⟨rfl, rfl, hR⟩ | ⟨a, rfl, rfl, hR⟩ | ⟨a, rfl, rfl, hR⟩
        · obtain ⟨x, hx⟩ : ∃ x, x = nx S j := ⟨_, rfl⟩
          have hx2 := nx_lt S j
          have HN1 := hide fun V (h : Pr V g S j) => HN.out j V h
          rw [← hx] at hx2 HN1
          have HH := hide fun V => hex_run x hx2 V
          have HXX := Lib.hid hx
          obtain ⟨hv, hhv⟩ : ∃ v, v = hexV x := ⟨_, rfl⟩
          unfold hexR at HH
          rw [← hhv] at HH
          have HHV := Lib.hid hhv
          clear hx hhv
          cases hv with
          | none =>
            have HE3 := hide (show r = .error (19, ((j : Nat) : Int)) by
              rw [HE2.out, ← HXX.out, ← HHV.out])
            obtain ⟨c0, c1, f1⟩ := hR.out.1.cells
            clear HE2
            go_wp2_with fail
            refine (HN1.out _ hR.out.1).mono ?_; rintro e w2 ⟨rfl, n2, rfl⟩
            go_wp2_with fail
            refine (HH.out _).mono ?_; rintro e w2 ⟨rfl, rfl⟩
            go_wp2_with fail
            go_quiet (fail)
            go_wp2_with fail
            refine (HF.out j _).mono ?_; rintro e w2 ⟨rfl, rfl⟩
            go_wp2_with fail
            rw [HE3.out]
            exact ⟨rfl, rfl, hR.out.2.drewN _⟩
          | some b =>
            have hb := hex_small HHV.out.symm
            have hsz : j < S.size := nx_in (by rw [← HXX.out]; rintro rfl; have := HHV.out; rw [hex_zero] at this; cases this)
            obtain ⟨c0, c1, f1⟩ := hR.out.1.cells
            have ho := or_zero ⟨b, hb⟩
            simp only at ho
            go_wp2_with fail
            refine (HN1.out _ hR.out.1).mono ?_; rintro e w2 ⟨rfl, n2, rfl⟩
            go_wp2_with fail
            refine (HH.out _).mono ?_; rintro e w2 ⟨rfl, rfl⟩
            go_wp2_with fail
            go_quiet (fail)
            go_wp2_with fail
            go_roundw
            case rel => exact .inr (.inl ⟨b, rfl, rfl, hide ⟨(hR.out.1.drewN _).set_ (j + 1), (hR.out.2.drewN _).set_ 1 _, by rw [← HXX.out]; exact HHV.out.symm⟩⟩)
            case measure => simp [intOf]
        · obtain ⟨x, hx⟩ : ∃ x, x = nx S (j + 1) := ⟨_, rfl⟩
          have hx2 := nx_lt S (j + 1)
          have HN1 := hide fun V (h : Pr V g S (j + 1)) => HN.out (j + 1) V h
          rw [← hx] at hx2 HN1
          have HH := hide fun V => hex_run x hx2 V
          have HXX := Lib.hid hx
          obtain ⟨hv, hhv⟩ : ∃ v, v = hexV x := ⟨_, rfl⟩
          unfold hexR at HH
          rw [← hhv] at HH
          have HHV := Lib.hid hhv
          clear hx hhv
          cases hv with
          | none =>
            have HE3 := hide (show r = .error (19, (((j + 1) : Nat) : Int)) by
              rw [HE2.out, hR.out.2.2]; simp only []; rw [← HXX.out, ← HHV.out])
            obtain ⟨c0, c1, f1⟩ := hR.out.1.cells
            clear HE2
            go_wp2_with fail
            refine (HN1.out _ hR.out.1).mono ?_; rintro e w2 ⟨rfl, n2, rfl⟩
            go_wp2_with fail
            refine (HH.out _).mono ?_; rintro e w2 ⟨rfl, rfl⟩
            go_wp2_with fail
            go_quiet (fail)
            go_wp2_with fail
            refine (HF.out (j + 1) _).mono ?_; rintro e w2 ⟨rfl, rfl⟩
            go_wp2_with fail
            rw [HE3.out]
            exact ⟨rfl, rfl, hR.out.2.1.drewN _⟩
          | some b =>
            have hb := hex_small HHV.out.symm
            have ha := hex_small hR.out.2.2
            have ho := or_shift ⟨a, ha⟩ ⟨b, hb⟩
            simp only at ho
            have hsz : (j + 1) < S.size := nx_in (by rw [← HXX.out]; rintro rfl; have := HHV.out; rw [hex_zero] at this; cases this)
            obtain ⟨c0, c1, f1⟩ := hR.out.1.cells
            go_wp2_with fail
            refine (HN1.out _ hR.out.1).mono ?_; rintro e w2 ⟨rfl, n2, rfl⟩
            go_wp2_with fail
            refine (HH.out _).mono ?_; rintro e w2 ⟨rfl, rfl⟩
            go_wp2_with fail
            go_quiet (fail)
            have HE3 := hide (show r = .ok (16 * a + b, j + 2) by rw [HE2.out, hR.out.2.2]; simp only []; rw [← HXX.out, ← HHV.out])
            go_wp2_with fail
            go_roundw
            case rel => exact .inr (.inr ⟨16 * a + b, by first | rfl | rw [ho], rfl, hide ⟨hR.out.1.drewN _, hR.out.2.1.drewN _, HE3.out⟩⟩)
            case measure => simp [intOf]
        · obtain ⟨c0, c1, f1⟩ := hR.out.1.cells
          go_wp2_with fail
          go_ret
          rw [hR.out.2.2]
          exact ⟨rfl, hR.out.1.set_ (j + 2), hR.out.2.1.set_ 1 _⟩
  · have d117 : ((c : Int) == 117) = false := by simp; omega
    have HE := hide (show r = .error (19, ((i + 1 : Nat) : Int)) by
      rw [HR.out, if_neg (by omega), if_neg h98, if_neg h116, if_neg h110, if_neg h102, if_neg h114, if_neg h117])
    clear HR h34 h92 h47 h98 h116 h110 h102 h114 h117
    go_wp2_with fail
    refine (HF.out (i + 1) _).mono ?_; rintro e w1 ⟨rfl, rfl⟩
    go_wp2_with fail
    rw [HE.out]
    exact ⟨rfl, rfl, HX2.out⟩
end Go.Proofs.YtmmbbndoimleaaaDoor
