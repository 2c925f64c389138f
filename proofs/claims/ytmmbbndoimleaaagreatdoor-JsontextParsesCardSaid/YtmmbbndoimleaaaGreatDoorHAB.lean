/- check and Check; strconv.FormatUint at base 10; Arguments that read as data, opened to the words of the walks; The table of powers of ten as the row lays it; a witness world; A region that draws its order and ends in operations of one forced order: the head under a condition that the tail may break; The parser in memory; next, digit, fail; Reading JSON, plain: blanks, words, digits, numbers, escapes, strings, values; blanks, word; hex, escape; escape; size, short and Small of the reference. -/
import Derived.Test.YtmmbbndoimleaaaGreatDoorHAA
import Derived.Lib.AppendIntMem
import Derived.Test.YtmmbbndoimleaaaGreatDoorRows
import Derived.ProofKit
import Derived.OpenShut
import Derived.ShutString
import Derived.ChangeOld
import Derived.Deep.Slices
import Derived.Deep.Strs
import Derived.Lib.LaidTab
import Derived.Lib.LaidIn
import Derived.StillTail
import Derived.Deep.RegionHeld3
import Derived.Defers
import Derived.WalkSmall

/- check and Check. -/
namespace Go.Proofs.YtmmbbndoimleaaaGreatDoor
open Go.RowKit

/-- The first error that f finds. -/
def firstE (f : Dt → Int) : List Dt → Int
  | [] => 0
  | x :: l => if f x = 0 then firstE f l else f x
/-- The first error of data of which so many levels are left. -/
def checkF : Nat → Dt → Int
  | 0, _ => 9
  | r + 1, d => if ownD d = 0 then firstE (checkF r) (kids d) else ownD d
def checkD (d : Dt) : Int := checkF 16 d
/-- No part has too many parts of its own, so many levels down. -/
def FitD : Nat → Dt → Prop
  | 0, _ => True
  | r + 1, d => (kids d).length ≤ 1000000000 ∧ ∀ x ∈ kids d, FitD r x

set_option maxRecDepth 20000 in
set_option maxHeartbeats 1000000 in
theorem check_run : ∀ (r m : Nat) (d : Dt) (A : Option Addr) (c : Nat) (A' : Option Addr) (c' : Nat) (lv : Int) (w : World), lv = 17 - r → r ≤ 16 → Parts w w.heap.size m d A c A' c' → FitD r d →
    Calls Tryz.prog 57 #[datV d A c A' c', .int .i64 lv] w fun e w' => e = .returned (.int .i64 (checkF r d)) ∧ Below w.heap.size w w' := by
  intro r
  induction r with
  | zero =>
    intro m d A c A' c' lv w hlv _ hp _
    have hl := hp.lens
    obtain ⟨h1, h2, h3, h4⟩ := hl
    have hm := maxLen_le h2; have hm' := maxLen_le h4
    obtain rfl : lv = 17 := by simpa using hlv
    unfold datV datCs checkF
    clear hp h2 h4 hlv
    go_enter Tryz.func57, Tryz.ntmps57
    go_wp2_with fail
    go_ret
    exact ⟨rfl, below_al (Below.refl _ _) _⟩
  | succ r ih =>
    intro m d A c A' c' lv w hlv hr hp hfit
    obtain _ | m := m
    · exact hp.elim
    obtain ⟨hfl, hfk⟩ := hfit
    have hlen : (iD d).length + (mD d).length ≤ 1000000000 := by
      unfold kids at hfl
      rw [List.length_append, List.length_map] at hfl
      exact hfl
    obtain ⟨h1, h2, h3, h4⟩ := hp.lens
    have hm := maxLen_le h2; have hm' := maxLen_le h4
    have HOWN := hide fun w' (hB : Below w.heap.size w w') => own_run d A c A' c' w' (Parts w w.heap.size m) hp.lens (hp.2.2.turn (Same.of_below hB) hB.size fun _ _ _ _ _ h => h)
    have HCH := hide fun w' (hB : Below w.heap.size w w') => children_run d A c A' c' m w' (hp.turn (Same.of_below hB) hB.size) hlen
    have g1 : decide (lv > 16) = false := by simp; omega
    have HFK := Lib.hid hfk
    have wlv : IntKind.i64.wrap (lv + 1) = lv + 1 := IntWalk.i64_in _ (by omega)
    have hlv' : lv + 1 = 17 - (r : Int) := by omega
    have HLV := Lib.hid hlv'
    obtain ⟨res, hres⟩ : ∃ k, k = checkF (r + 1) d := ⟨_, rfl⟩
    rw [← hres]
    unfold checkF at hres
    unfold datV datCs at HOWN HCH
    unfold datV datCs
    obtain ⟨o, ho⟩ : ∃ k, k = ownD d := ⟨_, rfl⟩
    rw [← ho] at HOWN hres
    obtain ⟨L, hL⟩ : ∃ k, k = kids d := ⟨_, rfl⟩
    rw [← hL] at HCH hres HFK hfl
    obtain ⟨k, hk⟩ : ∃ k, k = kD d := ⟨_, rfl⟩
    obtain ⟨n, hn'⟩ : ∃ k, k = nD d := ⟨_, rfl⟩
    obtain ⟨s, hs⟩ : ∃ k, k = sD d := ⟨_, rfl⟩
    obtain ⟨x, hx⟩ : ∃ k, k = (iD d).length := ⟨_, rfl⟩
    obtain ⟨y, hy⟩ : ∃ k, k = (mD d).length := ⟨_, rfl⟩
    rw [← hk, ← hn', ← hs, ← hx, ← hy] at HOWN HCH
    rw [← hk, ← hn', ← hs, ← hx, ← hy]
    rw [← hx] at h1
    rw [← hy] at h3
    have HRES := Lib.hid hres
    clear hk hn' hs hx hy ho hL hres h2 h4 hp hlen hfk hlv hlv'
    go_enter Tryz.func57, Tryz.ntmps57
    go_upto_region 1 with fail
    obtain ⟨w1, g, e1, e2, hBL, c0, c1, c2, c3, c4, hROW⟩ := boxD w k n s (.slice A x c) (.slice A' y c')
    rw [e1, e2]
    have HBL := hide hBL; have HROW := hide hROW
    clear e1 e2 hBL hROW
    go_wp2_with fail
    refine (HOWN.out _ HBL.out).mono ?_; rintro e w2 ⟨rfl, hB2⟩
    have HROW2 := hide (HROW.out.below hB2)
    obtain ⟨c0', c1', c2', c3', c4'⟩ := row5 HROW2.out
    have HB2 := hide (HBL.out.trans (hB2.mono HBL.out.size))
    clear c0 c1 c2 c3 c4 HOWN hB2 HROW HBL
    by_cases ho : o = 0
    · subst ho
      have hz : res = firstE (checkF r) L := by rw [HRES.out, if_pos rfl]
      have HZ := Lib.hid hz
      clear hz HRES
      go_wp2_with fail
      refine (HCH.out _ HB2.out).mono ?_; rintro e w3 ⟨u, rfl, hB3, hD3⟩
      have HB3 := hide (HB2.out.trans (hB3.mono HB2.out.size))
      obtain ⟨Au, cu, rfl, hu1, hu2, hels⟩ := hD3
      have hmu := maxLen_le hu2
      obtain ⟨N, hN⟩ : ∃ N, N = L.length := ⟨_, rfl⟩
      rw [← hN] at hu1 hfl ⊢
      have HN := Lib.hid hN; have HEL := Lib.hid hels
      clear hB3 hu2 hN hels c0' c1' c2' c3' c4' HCH HB2 HROW2
      go_wp2_with fail
      go_loopw [7, 8, 19] (fun _ _ iv wr => ∃ i : Nat, iv = .int .i64 i ∧ i ≤ N ∧ Hid (res = firstE (checkF r) (L.drop i)) ∧ Hid (Below w3.heap.size w3 wr)) (fun _ _ iv _ => N - (intOf iv).toNat)
      case atStart => exact ⟨0, rfl, Nat.zero_le _, HZ, hide (Below.refl _ _)⟩
      case round =>
        clear HZ
        obtain ⟨i, rfl, hi, hI, hB⟩ := hrel
        by_cases hlt : i < N
        · have hlt' : i < L.length := by rw [← HN.out]; exact hlt
          obtain ⟨ad, rfl, hb, a, q, a', q', hfive, hpts⟩ := HEL.out i _ (List.getElem?_eq_getElem hlt')
          have hq := hI.out
          rw [drop_at hlt', firstE] at hq
          have hfx := HFK.out _ (List.getElem_mem hlt')
          obtain ⟨X, hX⟩ : ∃ X, X = L[i] := ⟨_, rfl⟩
          rw [← hX] at hfive hpts hq hfx
          have hbb : (ad.add (i * 5)).block < w3.heap.size := by rw [block_of_add]; exact hb
          obtain ⟨s0, s1, s2, s3, s4⟩ := hfive.same hbb (Same.of_below hB.out)
          have HPT := hide hpts
          have HCK := hide fun w' (hB' : Below w3.heap.size w3 w') => ih m X a q a' q' (lv + 1) w' HLV.out (by omega) (hpts.turn (Same.of_below hB') hB'.size) hfx
          have HQ := Lib.hid hq
          clear hfive hpts hX hlt' hb hbb hI hq hfx
          unfold datV datCs at HCK
          obtain ⟨z, hz⟩ : ∃ z, z = checkF r X := ⟨_, rfl⟩
          rw [← hz] at HCK HQ
          clear hz
          go_wp2_with fail
          refine (HCK.out _ (below_al hB.out _)).mono ?_; rintro e w4 ⟨rfl, hB4⟩
          have HB4 := hide ((below_al hB.out _).trans (hB4.mono (Nat.le_trans hB.out.size (by simp))))
          clear hB4 HCK s0 s1 s2 s3 s4
          by_cases hz0 : z = 0
          · subst hz0
            have HQ2 := hide (show res = firstE (checkF r) (L.drop (i + 1)) by rw [HQ.out, if_pos rfl])
            go_wp2_with fail
            go_roundw
            case rel => exact ⟨i + 1, by go_num, by omega, HQ2, HB4⟩
            case measure => simp [intOf]; omega
          · have hzz : res = z := by rw [HQ.out, if_neg hz0]
            have HZ := Lib.hid hzz
            have g2 : (z != 0) = true := by simpa using hz0
            clear hzz hz0
            go_wp2_with fail
            go_ret
            exact ⟨ret_int HZ.out.symm, HB3.out.trans (HB4.out.mono HB3.out.size)⟩
        · obtain rfl : i = N := by omega
          have hz : res = 0 := by rw [hI.out, List.drop_eq_nil_of_le (by rw [HN.out]; exact Nat.le_refl _)]; rfl
          have HZ := Lib.hid hz
          clear hz hI
          go_wp2_with fail
          go_ret
          exact ⟨ret_int HZ.out.symm, HB3.out.trans (hB.out.mono HB3.out.size)⟩
    · have hz : res = o := by rw [HRES.out, if_neg ho]
      have HZ := Lib.hid hz
      have g2 : (o != 0) = true := by simpa using ho
      clear hz ho
      go_wp2_with fail
      go_ret
      exact ⟨ret_int HZ.out.symm, HB2.out⟩

set_option maxRecDepth 20000 in
theorem Check_run (m : Nat) (d : Dt) (A : Option Addr) (c : Nat) (A' : Option Addr) (c' : Nat) (w : World) (hp : Parts w w.heap.size m d A c A' c') (hf : FitD 16 d) :
    Calls Tryz.prog 30 #[datV d A c A' c'] w fun e w' => e = .returned (.int .i64 (checkD d)) ∧ Below w.heap.size w w' := by
  have HC := hide fun w' (hB : Below w.heap.size w w') => check_run 16 m d A c A' c' 1 w' rfl (by omega) (hp.turn (Same.of_below hB) hB.size) hf
  unfold checkD
  unfold datV datCs at HC
  unfold datV datCs
  clear hp
  go_enter Tryz.func30, Tryz.ntmps30
  go_wp2_with fail
  have hB0 := below_al (Below.refl w.heap.size w) (Obj.cells #[Value.int IntKind.i64 (kD d), Value.int IntKind.i64 (nD d), Value.string (sD d), Value.slice A (iD d).length c, Value.slice A' (mD d).length c'] 25)
  refine (HC.out _ hB0).mono ?_; rintro e w1 ⟨rfl, hB⟩
  go_wp2_with fail
  go_ret
  exact ⟨rfl, hB0.trans (hB.mono hB0.size)⟩
end Go.Proofs.YtmmbbndoimleaaaGreatDoor

/- strconv.FormatUint at base 10. -/
namespace Go.Proofs.YtmmbbndoimleaaaGreatDoor
open Go.RowKit

/-- The table of powers of ten lies as start-up laid it. -/
def Tab (w : World) : Prop := Lib.TabIs Tryz.prog w "internal/strconv.uint64pow10" .u64 Lib.pow10Tab
def decB (u : Nat) : ByteArray := ⟨(Lib.decDigits u).toArray⟩

theorem small_run (i : Nat) (h : i < 100) (w : World) : Calls Tryz.prog 129 #[.int .i64 i] w fun e w' => e = .returned (.string (decB i)) ∧ w' = w :=
  Any.internal_strconv_small smallL i h w
theorem numDigits_run (u : Nat) (h1 : 1 ≤ u) (h2 : u < 18446744073709551616) (w : World) (ht : Tab w) :
    Calls Tryz.prog 130 #[.int .u64 u] w fun e w' => e = .returned (.int .i64 (Lib.nDigits u)) ∧ w' = w :=
  Any.internal_strconv_numDigits digitsL u h1 h2 w ht

set_option maxRecDepth 20000 in
set_option maxHeartbeats 2000000 in
theorem fmtUint_run (u : Nat) (hu : u < 1000000000000000000) (w : World) (ht : Tab w) :
    Calls Tryz.prog 124 #[.int .u64 u, .int .i64 10] w fun e w' => e = .returned (.string (decB u)) ∧ Below w.heap.size w w' := by
  by_cases hs : u < 100
  · have HS := hide fun w => small_run u hs w
    have g1 : decide ((u : Int) < 100) = true := by simp; omega
    clear ht
    go_enter Tryz.func124, Tryz.ntmps124
    go_wp2_with fail
    refine (HS.out _).mono ?_; rintro e w' ⟨rfl, rfl⟩
    go_wp2_with fail
    go_ret
    exact ⟨rfl, Below.refl _ _⟩
  · have hu1 : 1 ≤ u := by omega
    have hu64 : u < 18446744073709551616 := by omega
    have hnd20 : Lib.nDigits u ≤ 20 := by have := Lib.numDigits_eq u hu1 hu64; split at this <;> omega
    have g1 : decide ((u : Int) < 100) = false := by simp; omega
    have hH0 := Lib.holds_zero0 w 125 (Lib.nDigits u) (by omega)
    have HFM := hide fun W (h : W = w.alloc (.cells Lib.zeros24 125)) => show Calls Tryz.prog 131 #[.slice (some ⟨w.heap.size, 0, none⟩) (Lib.nDigits u) 24, .int .u64 u] W fun e w' =>
        e = .returned (.tuple #[]) ∧ ∃ (n v' : Nat) (dk : Array UInt8), w' = (Sort.putRow (fun (b : UInt8) => Value.int .u8 (b.toNat : Int)) W w.heap.size 0 dk).drewN n ∧ Lib.FmtInv (Lib.nDigits u) u 0 v' dk from by
      subst h
      have := Any.internal_strconv_formatBase10 base10L w.heap.size 0 24 u (Array.replicate (Lib.nDigits u) 0) (w.alloc (.cells Lib.zeros24 125)) hH0 (by rw [Array.size_replicate]; exact Lib.lt_pow_nDigits u) hu64 (by rw [Array.size_replicate]; omega)
      rw [Array.size_replicate] at this
      exact this
    have HND := hide fun w' (h : Tab w') => numDigits_run u hu1 hu64 w' h
    have HT := hide (Lib.tabIs_alloc ht (.cells Lib.zeros24 125))
    obtain ⟨nd, hnd⟩ : ∃ nd, nd = Lib.nDigits u := ⟨_, rfl⟩
    rw [← hnd] at HFM hnd20 hH0
    rw [← hnd] at HND
    have HN := Lib.hid hnd; have HH0 := Lib.hid hH0
    clear hH0 hnd ht
    go_enter Tryz.func124, Tryz.ntmps124
    go_wp2_with fail
    refine (HND.out _ HT.out).mono ?_; rintro e w1 ⟨rfl, rfl⟩
    have hal : Tryz.prog.arrayLen 125 = 24 := by simp [Program.arrayLen, Tryz.underlying125]
    have hsl : ∀ W, (Instr.sliceAt 125 (.pointer (some ⟨w.heap.size, 0, none⟩)) none (some (.int .i64 (nd : Int))) none).run Tryz.prog W = .ok (.slice (some ⟨w.heap.size, 0, none⟩) nd 24) W := fun W => by
      rw [run_sliceAt_array_h W 125 ⟨w.heap.size, 0, none⟩ (by simp [Program.arrayLen, Program.elem, Tryz.underlying125]) .i64 (nd : Int) (by omega) (by rw [hal]; omega)]
      go_simp
    clear hal
    go_wp2_with fail
    refine (HFM.out _ rfl).mono ?_
    rintro e w2 ⟨rfl, k, v', dk, hw2, hF⟩
    have hcv : (convert 73 9 (.slice (some ⟨w.heap.size, 0, none⟩) nd 24)).run Tryz.prog w2 = .ok (.string (decB u)) w2 := by
      have h := run_convert_bytes_back (P := Tryz.prog) w2 73 9 5 ⟨w.heap.size, 0, none⟩ 24 (Lib.decDigits u) Tryz.underlying73 Tryz.underlying5 Tryz.underlying9 (fun j hj => by
        have hF' := hF
        rw [HN.out] at hF'
        rw [Lib.row_is_numeral hF' j hj, Lib.add_plain, hw2, World.cell?_drewN]
        exact Sort.cell?_putRow (fun (b : UInt8) => Value.int .u8 (b.toNat : Int)) _ w.heap.size 0 _ dk HH0.out (by rw [hF.size, Array.size_replicate]) j (by rw [hF.size, HN.out]; rw [Lib.decDigits_length] at hj; exact hj))
      rw [Lib.decDigits_length, ← HN.out] at h
      exact h
    have HBL := hide (show Below w.heap.size w w2 from by
      obtain ⟨os, eo⟩ := Lib.fin_at w (.cells Lib.zeros24 125) dk k 0
      rw [hw2]
      exact eo ▸ Lib.below_grow w.heap.size w (Nat.le_refl _) k os)
    clear hw2 hF HFM HND
    go_wp2_with fail
    go_ret
    exact ⟨rfl, HBL.out⟩

theorem FormatUint_run (u : Nat) (hu : u < 1000000000000000000) (w : World) (ht : Tab w) :
    Calls Tryz.prog 111 #[.int .u64 u, .int .i64 10] w fun e w' => e = .returned (.string (decB u)) ∧ Below w.heap.size w w' := by
  have HF := hide (fmtUint_run u hu w ht)
  clear ht
  go_enter Tryz.func111, Tryz.ntmps111
  go_wp2_with fail
  refine (unhide HF).mono ?_; rintro e w' ⟨rfl, hB⟩
  go_wp2_with fail
  go_ret
  exact ⟨rfl, hB⟩
end Go.Proofs.YtmmbbndoimleaaaGreatDoor

/- Arguments that read as data, opened to the words of the walks. -/
namespace Go.Proofs.YtmmbbndoimleaaaGreatDoor
open Go.ChangeShapes Go.WideShapes Go.ChangeAt Go.RowKit Go.Deep

theorem ownK : ownKnob Tryz.prog.godebug = none := by kernel_rfl
theorem laidOut : laidOutB Tryz.prog = true := by kernel_rfl
theorem cellsData : Tryz.prog.cellsOf 25 = 5 := by kernel_rfl
theorem cellsMember : Tryz.prog.cellsOf 57 = 6 := by kernel_rfl
theorem cellsInt : Tryz.prog.cellsOf 3 = 1 := by kernel_rfl
theorem cellsInt64 : Tryz.prog.cellsOf 2 = 1 := by kernel_rfl
theorem cellsString : Tryz.prog.cellsOf 9 = 1 := by kernel_rfl
theorem cellsDatas : Tryz.prog.cellsOf 22 = 1 := by kernel_rfl
theorem cellsMembers : Tryz.prog.cellsOf 23 = 1 := by kernel_rfl

theorem cells_get {w : World} {base n : Nat} {p : Addr} {cs : List Value} (h : w.cells? base p n = some cs) : cs.length = n ∧ ∀ i, i < n → w.cell? (p.add i) = cs[i]? := by
  unfold World.cells? at h
  split at h
  · refine ⟨by have := mapM_some_length h; simpa using this, fun i hi => mapM_some_get h i i (by simp [hi])⟩
  · cases h
theorem add_pos (p : Addr) (k : Nat) (hk : 0 < k) : p.add k = ⟨p.block, p.off + k, none⟩ := by unfold Addr.add; rw [if_neg (by omega)]

section
variable {H : Type} {enc : TypeId × Value → H} {P : Program} {w : World} {base : Nat} {spare : Nat → Bool} {held : Bool}
theorem trod_five {t : TypeId} {f0 f1 f2 f3 f4 : Field} {fuel : Nat} {cs : List Value} {x : DataW H × List MemPlace} (ht : P.underlying t = some (.struct #[f0, f1, f2, f3, f4])) (h : DataW.trod enc P w base spare held fuel t cs = some x) :
    ∃ y0 y1 y2 y3 y4 n, fuel = n + 1 ∧ cs.length = P.cellsOf t ∧ DataW.trod enc P w base spare held n f0.type ((cs.drop f0.offset).take (P.cellsOf f0.type)) = some y0 ∧
      DataW.trod enc P w base spare held n f1.type ((cs.drop f1.offset).take (P.cellsOf f1.type)) = some y1 ∧ DataW.trod enc P w base spare held n f2.type ((cs.drop f2.offset).take (P.cellsOf f2.type)) = some y2 ∧
      DataW.trod enc P w base spare held n f3.type ((cs.drop f3.offset).take (P.cellsOf f3.type)) = some y3 ∧ DataW.trod enc P w base spare held n f4.type ((cs.drop f4.offset).take (P.cellsOf f4.type)) = some y4 := by
  obtain ⟨xs, n, hn, rfl, hl, hlen, hf⟩ := DataW.trod_struct ht h
  match xs, hlen with
  | [y0, y1, y2, y3, y4], _ => exact ⟨y0, y1, y2, y3, y4, n, hn, hl, by simpa using hf 0 f0 rfl, by simpa using hf 1 f1 rfl, by simpa using hf 2 f2 rfl, by simpa using hf 3 f3 rfl, by simpa using hf 4 f4 rfl⟩
theorem trod_two {t : TypeId} {f0 f1 : Field} {fuel : Nat} {cs : List Value} {x : DataW H × List MemPlace} (ht : P.underlying t = some (.struct #[f0, f1])) (h : DataW.trod enc P w base spare held fuel t cs = some x) :
    ∃ y0 y1 n, fuel = n + 1 ∧ cs.length = P.cellsOf t ∧ DataW.trod enc P w base spare held n f0.type ((cs.drop f0.offset).take (P.cellsOf f0.type)) = some y0 ∧
      DataW.trod enc P w base spare held n f1.type ((cs.drop f1.offset).take (P.cellsOf f1.type)) = some y1 := by
  obtain ⟨xs, n, hn, rfl, hl, hlen, hf⟩ := DataW.trod_struct ht h
  match xs, hlen with
  | [y0, y1], _ => exact ⟨y0, y1, n, hn, hl, by simpa using hf 0 f0 rfl, by simpa using hf 1 f1 rfl⟩
end
section
variable {H : Type} {enc : TypeId × Value → H} {W : World} {base : Nat} {spare : Nat → Bool} {held : Bool}

set_option maxRecDepth 20000 in
theorem dat_of_trod : ∀ (f : Nat) {cs : List Value} {x : DataW H × List MemPlace}, DataW.trod enc Tryz.prog W base spare held f 25 cs = some x → ∃ D a c a' c', cs = datCs D a c a' c' ∧ Parts W W.heap.size f D a c a' c' := by
  intro f
  induction f using Nat.strongRecOn with
  | ind f ih =>
    intro cs x h
    obtain ⟨x0, x1, x2, x3, x4, n, hfn, hl, f0, f1, f2, f3, f4⟩ := trod_five Tryz.underlying25 h
    rw [cellsData] at hl
    match cs, hl with
    | [u0, u1, u2, u3, u4], _ =>
      simp only [cellsInt, cellsInt64, cellsString, cellsDatas, cellsMembers] at f0 f1 f2 f3 f4
      obtain ⟨z0, e0, _⟩ := DataW.trod_int Tryz.underlying3 f0
      obtain ⟨z1, e1, _⟩ := DataW.trod_int Tryz.underlying2 f1
      obtain ⟨z2, e2, _⟩ := DataW.trod_string Tryz.underlying9 f2
      simp at e0 e1 e2
      subst e0 e1 e2
      have key3 : ∃ A c l, u3 = .slice A l.length c ∧ l.length ≤ c ∧ c ≤ maxLen ∧ DatsAt (Parts W W.heap.size n) W W.heap.size A l := by
        rcases DataW.trod_slice Tryz.underlying22 f3 with ⟨hcs, _⟩ | ⟨ad, len, cap, elems, rest, n', hn', hcs, _, _, hle, hm, hel, hget, _⟩
        · simp at hcs
          exact ⟨none, 0, [], by rw [hcs]; rfl, Nat.le_refl _, Nat.zero_le _, fun i x h => by simp at h⟩
        · simp at hcs
          have key : ∀ i, ∃ D, i < len → ∃ a c a' c', Five W (ad.add (i * 5)) D a c a' c' ∧ Parts W W.heap.size n' D a c a' c' := fun i => by
            by_cases hi : i < len
            · have hg := hget i hi
              rw [cellsData] at hg
              have hi' : i < elems.length := by omega
              rw [List.getElem?_eq_getElem hi', Option.bind_eq_some_iff] at hg
              obtain ⟨cs', hc, ht⟩ := hg
              obtain ⟨D, a, c, a', c', e, hp⟩ := ih n' (by omega) ht
              obtain ⟨_, hcell⟩ := cells_get hc
              refine ⟨D, fun _ => ⟨a, c, a', c', five_of (fun k => (ad.add (i * 5)).add k) rfl (fun k hk => add_pos _ _ hk) (fun k hk u hu => by rw [hcell k hk, e]; exact hu), hp⟩⟩
            · exact ⟨mkD 0 0 ByteArray.empty [] [], fun h => absurd h hi⟩
          obtain ⟨F, hF⟩ : ∃ F : Nat → Dt, ∀ i, i < len → ∃ a c a' c', Five W (ad.add (i * 5)) (F i) a c a' c' ∧ Parts W W.heap.size n' (F i) a c a' c' := ⟨fun i => Classical.choose (key i), fun i => Classical.choose_spec (key i)⟩
          refine ⟨some ad, cap, (List.range len).map F, by rw [hcs]; simp, by simpa using hle, hm, fun i x hx => ?_⟩
          have hlt : i < len := by have := (List.getElem?_eq_some_iff.1 hx).1; simpa using this
          simp [hlt] at hx
          subst hx
          obtain ⟨a, c, a', c', h5, hp⟩ := hF i hlt
          refine ⟨ad, rfl, ?_, a, c, a', c', h5, hp.le (by omega)⟩
          have := World.block_lt_of_cell? W _ h5.1
          rwa [block_of_add] at this
      have key4 : ∃ A c l, u4 = .slice A (List.length l) c ∧ l.length ≤ c ∧ c ≤ maxLen ∧ MemsAt (Parts W W.heap.size n) W W.heap.size A l := by
        rcases DataW.trod_slice Tryz.underlying23 f4 with ⟨hcs, _⟩ | ⟨ad, len, cap, elems, rest, n', hn', hcs, _, _, hle, hm, hel, hget, _⟩
        · simp at hcs
          exact ⟨none, 0, [], by rw [hcs]; rfl, Nat.le_refl _, Nat.zero_le _, fun i x h => by simp at h⟩
        · simp at hcs
          have key : ∀ i, ∃ M : ByteArray × Dt, i < len → W.cell? (ad.add (i * 6)) = some (.string M.1) ∧ ∃ a c a' c', Five W ⟨(ad.add (i * 6)).block, (ad.add (i * 6)).off + 1, none⟩ M.2 a c a' c' ∧ Parts W W.heap.size n' M.2 a c a' c' := fun i => by
            by_cases hi : i < len
            · have hg := hget i hi
              rw [cellsMember] at hg
              have hi' : i < elems.length := by omega
              rw [List.getElem?_eq_getElem hi', Option.bind_eq_some_iff] at hg
              obtain ⟨cs', hc, ht⟩ := hg
              obtain ⟨hcl, hcell⟩ := cells_get hc
              obtain ⟨t0, t1, n2, hn2, _, y0, y1⟩ := trod_two Tryz.underlying57 ht
              match cs', hcl with
              | v0 :: cs2, hcl =>
                simp only [cellsString, cellsData] at y0 y1
                obtain ⟨s0, e0, _⟩ := DataW.trod_string Tryz.underlying9 y0
                simp at e0
                subst e0
                have hc2 : cs2.length = 5 := by simpa using hcl
                have y1' : DataW.trod enc Tryz.prog W base spare held n2 25 cs2 = some t1 := by
                  have e : (cs2.take 5) = cs2 := List.take_of_length_le (by omega)
                  simpa [e] using y1
                obtain ⟨D, a, c, a', c', e, hp⟩ := ih n2 (by omega) y1'
                refine ⟨(s0, D), fun _ => ⟨hcell 0 (by omega), a, c, a', c', five_of (fun k => (ad.add (i * 6)).add (1 + k)) (add_pos _ 1 (by omega)) (fun k hk => by rw [add_pos _ _ (by omega)]; simp [Nat.add_assoc]) (fun k hk u hu => by
                  rw [hcell (1 + k) (by omega), Nat.add_comm, List.getElem?_cons_succ, e]; exact hu), hp.le (by omega)⟩⟩
            · exact ⟨(ByteArray.empty, mkD 0 0 ByteArray.empty [] []), fun h => absurd h hi⟩
          obtain ⟨F, hF⟩ : ∃ F : Nat → ByteArray × Dt, ∀ i, i < len → W.cell? (ad.add (i * 6)) = some (.string (F i).1) ∧ ∃ a c a' c', Five W ⟨(ad.add (i * 6)).block, (ad.add (i * 6)).off + 1, none⟩ (F i).2 a c a' c' ∧ Parts W W.heap.size n' (F i).2 a c a' c' := ⟨fun i => Classical.choose (key i), fun i => Classical.choose_spec (key i)⟩
          refine ⟨some ad, cap, (List.range len).map F, by rw [hcs]; simp, by simpa using hle, hm, fun i x hx => ?_⟩
          have hlt : i < len := by have := (List.getElem?_eq_some_iff.1 hx).1; simpa using this
          simp [hlt] at hx
          subst hx
          obtain ⟨h0, a, c, a', c', h5, hp⟩ := hF i hlt
          refine ⟨ad, rfl, ?_, h0, a, c, a', c', h5, hp.le (by omega)⟩
          have := World.block_lt_of_cell? W _ h0
          rwa [block_of_add] at this
      obtain ⟨A, c, IS, rfl, i1, i2, i3⟩ := key3
      obtain ⟨A', c', MS, rfl, m1, m2, m3⟩ := key4
      subst hfn
      exact ⟨mkD z0 z1 z2 IS MS, A, c, A', c', by unfold datCs; simp, ⟨i1, i2, by rw [mD_mk]; exact m1, m2⟩, i3, by rw [mD_mk]; exact m3⟩
set_option maxRecDepth 20000 in
theorem dat_of {r : Reach} {b0 : Nat} {v : Value} {d : DataW H} {p : List MemPlace} (hv : Value.okWide Tryz.prog W r b0 25 v) (h : DataW.Trod enc Tryz.prog W base spare held 25 v d p) :
    ∃ m D a c a' c', v = datV D a c a' c' ∧ Parts W W.heap.size m D a c a' c' := by
  obtain ⟨f, hf⟩ := h
  obtain ⟨D, a, c, a', c', e, hp⟩ := dat_of_trod f hf
  obtain ⟨xs, rfl, _⟩ := okWide_struct Tryz.underlying25 hv
  refine ⟨f, D, a, c, a', c', ?_, hp⟩
  have e' : xs.toList = datCs D a c a' c' := by simpa [Value.cells] using e
  unfold datV
  rw [← e', Array.toArray_toList]
end
theorem gT : Tryz.prog.globalNamed "internal/strconv.uint64pow10" = some 1 := by kernel_rfl
end Go.Proofs.YtmmbbndoimleaaaGreatDoor

/- The table of powers of ten as the row lays it; a witness world. -/
namespace Go.Proofs.YtmmbbndoimleaaaGreatDoor
open Go.ChangeShapes Go.WideShapes Go.ChangeAt Go.RowKit Go.Deep

theorem laid_tail {P : Program} {a : String × DataW Unit} {rest : List (String × DataW Unit)} {W : World} (h : laidMet P (a :: rest) W) : laidMet P rest W := by
  obtain ⟨ps, ⟨g, t, cs, fuel, p, q, _, _, _, _, hq, rfl⟩, hn, hr⟩ := h
  exact ⟨q, hq, (List.nodup_append.1 hn).2.1, fun b off hm => hr b off (List.mem_append_right _ hm)⟩
theorem gTen : Tryz.prog.globalNamed "internal/strconv.uint64pow10" = some 1 := by kernel_rfl
theorem gTenType : (Tryz.prog.globals[1]?).map (·.type) = some 132 := by kernel_rfl
theorem tab_of {W : World} (h : laidMetH Tryz.prog [("math/bits.deBruijn32tab", Rows.laid_math_bits_deBruijn32tab), ("math/bits.deBruijn64tab", Rows.laid_math_bits_deBruijn64tab), ("internal/strconv.uint64pow10", Rows.laid_internal_strconv_uint64pow10)] W) : Tab W := by
  have h' : laidMet Tryz.prog [("math/bits.deBruijn32tab", Rows.laid_math_bits_deBruijn32tab), ("math/bits.deBruijn64tab", Rows.laid_math_bits_deBruijn64tab), ("internal/strconv.uint64pow10", Rows.laid_internal_strconv_uint64pow10)] W := h
  have h2 : laidMet Tryz.prog [("internal/strconv.uint64pow10", Lib.tabData .u64 Lib.pow10Tab)] W := laid_tail (laid_tail h')
  exact Lib.tabIs_of_head gTen gTenType Tryz.underlying132 Tryz.underlying109 (by kernel_rfl) (by kernel_rfl) h2
abbrev LAID : List (String × DataW Unit) := [("math/bits.deBruijn32tab", Rows.laid_math_bits_deBruijn32tab), ("math/bits.deBruijn64tab", Rows.laid_math_bits_deBruijn64tab), ("internal/strconv.uint64pow10", Rows.laid_internal_strconv_uint64pow10)]
def numsOf : DataW Unit → Array Value
  | .agg l => (l.filterMap fun | .lit (.int k n) => some (Value.int k n) | _ => none).toArray
  | _ => #[]
/-- The settled world, the three tables laid. -/
noncomputable def laidWorld (os : Os) : World :=
  let w0 := World.holding Tryz.prog os ⟨#[], #[], []⟩
  let put := fun (a : Array Value) => fun
    | Obj.cells _ t frozen => Obj.cells a t frozen
    | o => o
  { w0 with heap := ((w0.heap.modify 1 (put (numsOf Rows.laid_internal_strconv_uint64pow10))).modify 3 (put (numsOf Rows.laid_math_bits_deBruijn64tab))).modify 2 (put (numsOf Rows.laid_math_bits_deBruijn32tab)) }
set_option maxRecDepth 100000 in
theorem laid_met (os : Os) (args : Array Value) : laidMetH Tryz.prog LAID ((laidWorld os).forCall (fun _ _ => 0) ⟨#[], args, []⟩).memory :=
  (LaidIn.of_run (l := LAID) [1, 2, 3] 8 (by kernel_rfl) (by kernel_rfl) (by kernel_rfl) (by kernel_rfl)).met
end Go.Proofs.YtmmbbndoimleaaaGreatDoor

/- A region that draws its order and ends in operations of one forced order: the head under a condition that the tail may break. -/
namespace Go.Proofs.YtmmbbndoimleaaaGreatDoor
open Go.RowKit

section
variable {P : Program} {md : Region.Mode} {l : List Oper} {n : Nat} {Q : Exit → Act → World → Prop} {S : World → Prop}
/-- The post of the head: the tail, one operation behind the other. -/
def TailPost (P : Program) (l : List Oper) (n : Nat) (Q : Exit → Act → World → Prop) : Exit → Act → World → Prop
  | .normal, a, w => wpList P l.toArray Q (l.drop n) a w
  | e, a, w => Q e a w
theorem tp_wp {o : Oper} {a : Act} {w : World} {K : Act → World → Prop} (h : o.wp P a w K (TailPost P l n Q)) : o.wp P a w K Q := by
  unfold Oper.wp at *
  generalize (execOp a.eval o).run P w = r at *
  cases r with
  | ok x w' =>
    cases x <;> simp only [Oper.upon] at h ⊢ <;>
      first
        | exact h
        | exact Calls.mono h (fun e w'' he => by cases e <;> exact he)
  | halt x w' => cases x <;> simp only [Oper.upon] at h ⊢ <;> exact h
theorem tp_out (h : LetsOut (TailPost P l n Q)) : LetsOut Q := h
theorem any_more : ∀ (f : Nat) (listed : Array Bool) (a : Act) (w : World), wpAny P md l.toArray Q f listed a w → wpAny P md l.toArray Q (f + 1) listed a w
  | 0, listed, a, w, h => ⟨fun _ => h.2, fun i hi => by rw [h.1] at hi; cases hi⟩
  | f + 1, listed, a, w, h => ⟨h.1, fun i hi => wpOp_mono (fun a' w' h' => any_more f _ a' w' h') (h.2 i hi)⟩
theorem any_add (f : Nat) : ∀ (g : Nat) (listed : Array Bool) (a : Act) (w : World), wpAny P md l.toArray Q f listed a w → wpAny P md l.toArray Q (g + f) listed a w
  | 0, _, _, _, h => by rw [Nat.zero_add]; exact h
  | g + 1, listed, a, w, h => by rw [show g + 1 + f = (g + f) + 1 by omega]; exact any_more _ _ _ _ (any_add f g listed a w h)
/-- Each operation waits only for those ahead of it. -/
def orderB (md : Region.Mode) (ops : Array Oper) (n : Nat) : Bool :=
  (List.range n).all fun i => ((ops[i]?).map fun o => o.after.all fun e => !Region.binds md e || decide (e.on < i)).getD false
def plainGuards (l : List Oper) : Bool := l.all fun o => match o.guard with | none => true | some _ => false
def headTailB (md : Region.Mode) (l : List Oper) (n : Nat) : Bool :=
  decide (n < l.length) && Region.sinkB md l.toArray n && Region.chainB md l.toArray n && orderB md l.toArray n && plainGuards (l.take n) && Region.seqB md l.toArray (l.length - n) n ((List.replicate n true ++ List.replicate (l.length - n) false).toArray)
/-- The head's list of what has come up, at the whole. -/
def full (g : Nat) (listed : Array Bool) : Array Bool := (listed.toList ++ List.replicate g false).toArray
theorem full_lt {g i : Nat} {listed : Array Bool} (b : Bool) (hi : i < listed.size) : (full g listed).getD i b = listed.getD i b := by
  unfold full
  simp only [Array.getD_eq_getD_getElem?, List.getElem?_toArray]
  rw [List.getElem?_append_left (by simpa using hi)]
  simp
theorem full_ge {g i : Nat} {listed : Array Bool} (hi : listed.size ≤ i) : (full g listed).getD i false = false := by
  unfold full
  simp only [Array.getD_eq_getD_getElem?, List.getElem?_toArray]
  rw [List.getElem?_append_right (by simpa using hi)]
  rcases Nat.lt_or_ge (i - listed.size) g with h | h
  · simp [h]
  · simp [Nat.not_lt.2 h]
theorem full_size (g : Nat) (listed : Array Bool) : (full g listed).size = listed.size + g := by unfold full; simp
theorem full_set {g i : Nat} {listed : Array Bool} (hi : i < listed.size) : full g (listed.setIfInBounds i true) = (full g listed).setIfInBounds i true := by
  unfold full
  apply Array.ext'
  simp [hi]
theorem getD_below {l : List Oper} {n j : Nat} (h : j < n) : (l.take n).toArray[j]? = l.toArray[j]? := by simp [h]
theorem ready_full {g : Nat} {listed : Array Bool} (hs : listed.size = n) {j : Nat} (hj : j < n) : j ∈ Region.ready md l.toArray (full g listed) ↔ j ∈ Region.ready md (l.take n).toArray listed := by
  rw [mem_ready, mem_ready, getD_below hj, full_lt true (by omega)]
  refine and_congr Iff.rfl ⟨fun ⟨o, h1, h2⟩ => ⟨o, h1, fun e he hb => ?_⟩, fun ⟨o, h1, h2⟩ => ⟨o, h1, fun e he hb => ?_⟩⟩
  · have := h2 e he hb
    rcases Nat.lt_or_ge e.on listed.size with h | h
    · rwa [full_lt false h] at this
    · rw [full_ge h] at this; cases this
  · have := h2 e he hb
    rcases Nat.lt_or_ge e.on listed.size with h | h
    · rwa [full_lt false h]
    · simp [Nat.not_lt.2 h] at this
theorem ready_lt {ops : Array Oper} {listed : Array Bool} {j : Nat} (h : j ∈ Region.ready md ops listed) : j < ops.size := by
  obtain ⟨_, o, ho, _⟩ := mem_ready.1 h
  exact (Array.getElem?_eq_some_iff.1 ho).1
theorem all_listed {ops : Array Oper} {listed : Array Bool} (hord : orderB md ops n = true) (hs : listed.size = n) (hr : ∀ j, j < n → j ∉ Region.ready md ops (listed)) : ∀ i, i < n → listed.getD i false = true := by
  intro i
  induction i using Nat.strongRecOn with
  | _ i ih =>
    intro hi
    cases hl : listed.getD i false with
    | true => rfl
    | false =>
      exfalso
      have h1 := List.all_eq_true.1 hord i (List.mem_range.2 hi)
      cases ho : ops[i]? with
      | none => rw [ho] at h1; cases h1
      | some o =>
        rw [ho] at h1
        have h1 : (o.after.all fun e => !Region.binds md e || decide (e.on < i)) = true := h1
        refine hr i hi (mem_ready.2 ⟨getD_in (by omega) hl, o, ho, fun e he hb => ?_⟩)
        have h2 := Array.all_eq_true'.1 h1 e he
        rw [hb] at h2
        have h3 : e.on < i := by simpa using h2
        exact ih e.on h3 (by omega)
theorem any_of_headH (hB : headTailB md l n = true) : ∀ (f : Nat) (listed : Array Bool) (a : Act) (w : World), HeadInv md l.toArray n (full (l.length - n) listed) → listed.size = n →
    wpAnyH P md (l.take n).toArray (TailPost P l n Q) S f listed a w → wpAny P md l.toArray Q (f + (l.length - n)) (full (l.length - n) listed) a w := by
  unfold headTailB at hB
  simp only [Bool.and_eq_true, decide_eq_true_eq] at hB
  obtain ⟨⟨⟨⟨⟨hn, hsi⟩, hch⟩, hord⟩, hgu⟩, hseq⟩ := hB
  have hord2 : orderB md (l.take n).toArray n = true := by
    unfold orderB at hord ⊢
    rw [List.all_eq_true] at hord ⊢
    intro i hi
    rw [getD_below (List.mem_range.1 hi)]
    exact hord i hi
  have hend : ∀ (f : Nat) (listed : Array Bool) (a : Act) (w : World), listed.size = n → Region.ready md (l.take n).toArray listed = [] → wpList P l.toArray Q (l.drop n) a w → wpAny P md l.toArray Q (f + (l.length - n)) (full (l.length - n) listed) a w := by
    intro f listed a w hs hr h
    have hall := all_listed (listed := listed) hord2 hs (fun j _ => by rw [hr]; simp)
    have e : full (l.length - n) listed = (List.replicate n true ++ List.replicate (l.length - n) false).toArray := by
      have : listed.toList = List.replicate n true := by
        apply List.ext_getElem (by simp [hs])
        intro i h1 h2
        have h1' : i < listed.size := by simpa using h1
        have := hall i (by omega)
        simp [h1'] at this
        simpa using this
      unfold full; rw [this]
    have h2 := wpAny_of_seq (md := md) (Q' := Q) (l.drop n) n (full (l.length - n) listed) a w (fun j => by simp [List.getElem?_drop]) (by rw [List.length_drop, e]; exact hseq) h
    rw [List.length_drop] at h2
    exact any_add _ f _ _ _ h2
  intro f
  induction f with
  | zero =>
    intro listed a w _ hs h
    exact hend 0 listed a w hs h.1 h.2
  | succ f ih =>
    intro listed a w inv hs h
    cases hr : Region.ready md (l.take n).toArray listed with
    | nil => exact hend (f + 1) listed a w hs hr (h.1 hr)
    | cons i0 rs =>
      have hi0 : i0 ∈ Region.ready md (l.take n).toArray listed := by rw [hr]; exact List.mem_cons_self ..
      have hi0n : i0 < n := by have := ready_lt hi0; simp at this; omega
      have hun0 := (mem_ready.1 ((ready_full (g := l.length - n) hs hi0n).2 hi0)).1
      rw [show f + 1 + (l.length - n) = (f + (l.length - n)) + 1 by omega]
      refine ⟨fun h0 => ?_, fun j hj => ?_⟩
      · have := (ready_full (g := l.length - n) hs hi0n).2 hi0
        rw [h0] at this; cases this
      have hjn : j < n := by
        rcases Nat.lt_or_ge j n with h | h
        · exact h
        · exact absurd hj (tail_waits hsi hch (by simpa using hn) inv _ i0 rfl hi0n hun0 j h)
      have h1 := h.2 j ((ready_full hs hjn).1 hj)
      obtain ⟨_, o, ho, _⟩ := mem_ready.1 hj
      have hgo : o.guard = none := by
        have := List.all_eq_true.1 hgu o (by simpa using Array.mem_of_getElem? ((getD_below hjn).trans ho))
        revert this
        cases o.guard <;> simp
      have hw : ∀ y, Region.wanted o y = true := fun y => by simp [Region.wanted, hgo]
      unfold wpOp at h1 ⊢
      rw [getD_below hjn] at h1
      simp only [ho, hw, if_true] at h1 ⊢
      rcases h1 with h1 | h1
      · refine .inl (Oper.wp_mono (fun a' w' h' => ?_) (tp_wp h1))
        have h2 := ih (listed.setIfInBounds j true) a' w' (by rw [full_set (by omega)]; exact inv.set hj hjn) (by simp [hs]) h'.2
        rwa [full_set (by omega)] at h2
      · exact .inr ⟨h1.1, tp_out h1.2⟩
/-- A region in two parts: the head in whatever order, under S; the tail in its one order. -/
theorem region_two {id : Nat} {a : Act} {w : World} (n : Nat) (S : World → Prop) (hm : P.follows .mixedOrders = true) (hB : headTailB .any l n = true) (hS : S w.drew)
    (h : S w.drew → wpAnyH P .any (l.take n).toArray (TailPost P l n Q) S n (Array.replicate n false) a w.drew) : (Code.region id l.toArray true).wp P Q a w := by
  refine wp_region_any hm ?_
  have hn : n < l.length := by
    unfold headTailB at hB
    simp only [Bool.and_eq_true, decide_eq_true_eq] at hB
    exact hB.1.1.1.1.1
  have e : full (l.length - n) (Array.replicate n false) = Array.replicate l.length false := by
    unfold full
    apply Array.ext'
    simp [List.replicate_append_replicate, show n + (l.length - n) = l.length by omega]
  have inv : HeadInv .any l.toArray n (full (l.length - n) (Array.replicate n false)) := by
    rw [e]
    exact ⟨by simp, fun j oj _ hl => (by rw [getD_replicate_false] at hl; cases hl), fun t _ ht => getD_in (by simpa using ht) (getD_replicate_false _ _)⟩
  have := any_of_headH (P := P) (Q := Q) (S := S) hB n _ a w.drew inv (by simp) (h hS)
  rw [e, show n + (l.length - n) = l.length by omega] at this
  simpa using this
/-- An operation is taken first; its parts stand as letters, so that the frame behind it is written out. -/
theorem takeH {ops : Array Oper} {i : Nat} {d : Option Tmp} {op : Op} {ty : TypeId} {pos : String} {af : Array Edge} {gd : Option (Tmp × Bool)} {v : Value} {fuel : Nat} {listed : Array Bool} {a : Act} {w : World} (hi : ops[i]? = some ⟨d, op, ty, pos, af, gd⟩)
    (hs : Region.noSelect ops = true) (hf : Region.free md ops listed i = true) (hr : (Region.ready md ops listed).contains i = true)
    (hQ : ∀ c a w, Q (.panic c) (a.put d v) w → Q (.panic c) a w) (hy : YieldsIf P ops S ⟨d, op, ty, pos, af, gd⟩ v a) (hS : S w)
    (h : wpAnyH P md ops Q S fuel (listed.setIfInBounds i true) (a.put d v) w) : wpAnyH P md ops Q S (fuel + 1) listed a w := wpAnyH_take hi hs hf hr hQ hy hS h
/-- One operation alone may come up. -/
theorem oneH {ops : Array Oper} {i : Nat} {d : Option Tmp} {op : Op} {ty : TypeId} {pos : String} {af : Array Edge} {gd : Option (Tmp × Bool)} {fuel : Nat} {listed : Array Bool} {a : Act} {w : World} (hi : ops[i]? = some ⟨d, op, ty, pos, af, gd⟩) (hr : Region.ready md ops listed = [i])
    (h : ∀ K' : Act → World → Prop, Shut (∀ a w, S w → (S w → wpAnyH P md ops Q S fuel (listed.setIfInBounds i true) a w) → K' a w) → if Region.wanted ⟨d, op, ty, pos, af, gd⟩ (yielded ops a.tmps) = true then Oper.wp P ⟨d, op, ty, pos, af, gd⟩ a w K' Q else K' (a.put d undef) w) :
    wpAnyH P md ops Q S (fuel + 1) listed a w := wpAnyH_ready hr (by simp) (AllReadyH.cons hi h AllReadyH.nil)
/-- Two operations may come up. -/
theorem twoH {ops : Array Oper} {i j : Nat} {d : Option Tmp} {op : Op} {ty : TypeId} {pos : String} {af : Array Edge} {gd : Option (Tmp × Bool)} {d' : Option Tmp} {op' : Op} {ty' : TypeId} {pos' : String} {af' : Array Edge} {gd' : Option (Tmp × Bool)} {fuel : Nat} {listed : Array Bool} {a : Act} {w : World} (hi : ops[i]? = some ⟨d, op, ty, pos, af, gd⟩) (hj : ops[j]? = some ⟨d', op', ty', pos', af', gd'⟩) (hr : Region.ready md ops listed = [i, j])
    (h : ∀ K' : Act → World → Prop, Shut (∀ a w, S w → (S w → wpAnyH P md ops Q S fuel (listed.setIfInBounds i true) a w) → K' a w) → if Region.wanted ⟨d, op, ty, pos, af, gd⟩ (yielded ops a.tmps) = true then Oper.wp P ⟨d, op, ty, pos, af, gd⟩ a w K' Q else K' (a.put d undef) w)
    (h' : ∀ K' : Act → World → Prop, Shut (∀ a w, S w → (S w → wpAnyH P md ops Q S fuel (listed.setIfInBounds j true) a w) → K' a w) → if Region.wanted ⟨d', op', ty', pos', af', gd'⟩ (yielded ops a.tmps) = true then Oper.wp P ⟨d', op', ty', pos', af', gd'⟩ a w K' Q else K' (a.put d' undef) w) :
    wpAnyH P md ops Q S (fuel + 1) listed a w := wpAnyH_ready hr (by simp) (AllReadyH.cons hi h (AllReadyH.cons hj h' AllReadyH.nil))
end
end Go.Proofs.YtmmbbndoimleaaaGreatDoor

/- The parser in memory; next, digit, fail. -/
namespace Go.Proofs.YtmmbbndoimleaaaGreatDoor
open Go.RowKit

/-- The parser's block. -/
def Pr (w : World) (g : Nat) (S : ByteArray) (i : Nat) : Prop := Row w g 46 [.string S, .int .i64 i]
/-- Nothing that stood has changed but for block g. -/
def Px (g : Nat) (w w' : World) : Prop := Below 0 w w' ∧ ∀ k, k < w.heap.size → k ≠ g → w'.heap[k]? = w.heap[k]?
section
variable {w w1 w2 : World} {g : Nat} {S : ByteArray} {i j : Nat}
theorem Px.refl : Px g w w := ⟨Below.refl _ _, fun _ _ _ => rfl⟩
theorem Px.trans (h : Px g w w1) (h' : Px g w1 w2) : Px g w w2 :=
  ⟨h.1.trans h'.1, fun k hk hn => (h'.2 k (Nat.lt_of_lt_of_le hk h.1.size) hn).trans (h.2 k hk hn)⟩
theorem Px.size (h : Px g w w1) : w.heap.size ≤ w1.heap.size := h.1.size
theorem Px.drewN (h : Px g w w1) (n : Nat) : Px g w (w1.drewN n) := ⟨below_drewN h.1 n, h.2⟩
theorem Px.drew (h : Px g w w1) : Px g w w1.drew := ⟨h.1.drew, h.2⟩
theorem Px.of_below (h : Below w.heap.size w w1) : Px g w w1 := ⟨h.mono (Nat.zero_le _), fun k hk _ => h.block k hk⟩
theorem Px.below (h : Px g w w1) (h' : Below w1.heap.size w1 w2) : Px g w w2 := h.trans (Px.of_below h')
theorem Px.alloc (h : Px g w w1) (o : Obj) : Px g w (w1.alloc o) := h.below ((Below.refl _ _).alloc (Nat.le_refl _) o)
theorem Px.set_ (h : Px g w w1) (i : Nat) (u : Value) : Px g w (w1.setCell ⟨g, i, none⟩ u) :=
  ⟨h.1.setCell (p := ⟨g, i, none⟩) (Nat.zero_le _) u, fun k hk hn => (Below.heap_setCell _ _ _ _ hn).trans (h.2 k hk hn)⟩
theorem Px.setFar (h : Px g w w1) {p : Addr} (hp : w.heap.size ≤ p.block) (u : Value) : Px g w (w1.setCell p u) :=
  ⟨h.1.setCell (p := p) (Nat.zero_le _) u, fun k hk hn => (Below.heap_setCell _ _ _ _ (by omega)).trans (h.2 k hk hn)⟩
theorem Px.grown (h : Px g w w1) {row : Option Nat} (hg : w1.grownBy w2 row) (hr : ∀ k, row = some k → w.heap.size ≤ k) : Px g w w2 :=
  ⟨h.1.grown hg (Nat.zero_le _) (fun k e => Nat.zero_le _), fun k hk hn => (hg.block k (Nat.lt_of_lt_of_le hk h.size) (fun e => by have := hr k e.symm; omega)).trans (h.2 k hk hn)⟩
/-- From a bound below the parser's block. -/
theorem Px.to_below {B : Nat} {w0 : World} (h0 : Below B w0 w) (h : Px g w w1) (hB : B ≤ w.heap.size) (hg : B ≤ g) : Below B w0 w1 :=
  h0.trans ⟨h.1.os, h.1.tape, h.1.output, h.1.size, fun k hk => h.2 k (by omega) (by omega)⟩
theorem Pr.lt (h : Pr w g S i) : g < w.heap.size := Row.lt h
theorem Pr.below (h : Pr w g S i) (hb : Below w.heap.size w w1) : Pr w1 g S i := Row.below h hb
theorem Pr.drewN (h : Pr w g S i) (n : Nat) : Pr (w.drewN n) g S i := h
theorem Pr.cells (h : Pr w g S i) : w.cell? ⟨g, 0, none⟩ = some (.string S) ∧ w.cell? ⟨g, 1, none⟩ = some (.int .i64 i) ∧ w.frozen? ⟨g, 1, none⟩ = false := ⟨h.cell 0, h.cell 1, h.frozen 1⟩
theorem Pr.set_ (h : Pr w g S i) (j : Nat) : Pr (w.setCell ⟨g, 1, none⟩ (.int .i64 j)) g S j := Row.set_ h 1 (.int .i64 j)
theorem Pr.other (h : Pr w g S i) {row : Option Nat} (hg : w.grownBy w1 row) (hr : some g ≠ row) : Pr w1 g S i := Row.grown h hg hr
end

/-- Where the parser stands. -/
def atOf (w : World) (g : Nat) : Nat := (intOf ((w.cell? ⟨g, 1, none⟩).getD undef)).toNat
theorem Pr.at_ {w : World} {g : Nat} {S : ByteArray} {i : Nat} (h : Pr w g S i) : atOf w g = i := by
  unfold atOf; rw [h.cells.2.1]; rfl
/-- The byte at a place, 0 behind the end. -/
def nx (S : ByteArray) (i : Nat) : Nat := if i < S.size then (S.get! i).toNat else 0
theorem nx_lt (S : ByteArray) (i : Nat) : nx S i < 256 := by unfold nx; split; exact (S.get! i).toNat_lt; omega
theorem nx_in {S : ByteArray} {i : Nat} (h : nx S i ≠ 0) : i < S.size := by
  unfold nx at h
  split at h
  · assumption
  · exact absurd rfl h
theorem get_bang {S : ByteArray} {i : Nat} (h : i < S.size) : S[i] = S.get! i := by
  simp [ByteArray.get!, h]
  rfl

set_option maxHeartbeats 1000000 in
theorem next_run (S : ByteArray) (g i : Nat) (w : World) (h : Pr w g S i) :
    Calls Tryz.prog 36 #[.pointer (some ⟨g, 0, none⟩)] w fun e w' => e = .returned (.int .u8 (nx S i)) ∧ ∃ n, w' = w.drewN n := by
  obtain ⟨c0, c1, _⟩ := h.cells
  clear h
  by_cases hlt : i < S.size
  · have e : nx S i = (S[i]).toNat := by unfold nx; rw [if_pos hlt, get_bang hlt]
    have HE := Lib.hid e
    rw [e]
    clear e
    go_enter Tryz.func36, Tryz.ntmps36
    go_wp2_with fail
    go_quiet (fail)
    go_wp2_with fail
    go_quiet (fail)
    go_wp2_with fail
    go_ret
    exact ⟨rfl, drew2 _ _ _⟩
  · have e : nx S i = 0 := by unfold nx; rw [if_neg hlt]
    rw [e]
    clear e
    go_enter Tryz.func36, Tryz.ntmps36
    go_wp2_with fail
    go_quiet (fail)
    go_wp2_with fail
    go_ret
    exact ⟨rfl, _, rfl⟩
/-- A fault as a panic's value. -/
def fV (f : Int × Int) : Value := .iface 48 (.agg #[.int .i64 f.1, .int .i64 f.2])
def digB (c : Nat) : Bool := decide (48 ≤ c) && decide (c ≤ 57)

theorem fail_run (p : Value) (e a : Int) (w : World) :
    Calls Tryz.prog 25 #[p, .int .i64 e, .int .i64 a] w fun r w' => r = .panicked [{ v := fV (e, a), recovered := false }] ∧ w = w' := by
  go_enter Tryz.func25, Tryz.ntmps25
  go_wp2_with fail
  exact ⟨rfl, rfl, rfl⟩
set_option maxHeartbeats 1000000 in
theorem digit_run (S : ByteArray) (g i : Nat) (w : World) (h : Pr w g S i) :
    Calls Tryz.prog 39 #[.pointer (some ⟨g, 0, none⟩)] w fun e w' => e = .returned (.bool (digB (nx S i))) ∧ ∃ n, w' = w.drewN n := by
  have HN := hide fun W (h : Pr W g S i) => next_run S g i W h
  have HP := hide h
  obtain ⟨c, hc⟩ : ∃ c, c = nx S i := ⟨_, rfl⟩
  have hc2 := nx_lt S i
  rw [← hc] at HN hc2 ⊢
  obtain ⟨b, hb⟩ : ∃ b, b = digB c := ⟨_, rfl⟩
  rw [← hb]
  unfold digB at hb
  have HB := Lib.hid hb
  clear hc hb h
  go_enter Tryz.func39, Tryz.ntmps39
  by_cases h1 : 48 ≤ c
  · have d1 : decide ((48 : Int) ≤ (c : Int)) = true := by simp; omega
    go_wp2_with fail
    refine (HN.out _ HP.out).mono ?_; rintro e w1 ⟨rfl, n1, rfl⟩
    go_wp2_with fail
    refine (HN.out _ (HP.out.drewN _)).mono ?_; rintro e w1 ⟨rfl, n2, rfl⟩
    go_wp2_with fail
    go_ret
    exact ⟨ret_bool (by rw [HB.out]; simp [h1]; omega), _, rfl⟩
  · have d1 : decide ((48 : Int) ≤ (c : Int)) = false := by simp; omega
    go_wp2_with fail
    refine (HN.out _ HP.out).mono ?_; rintro e w1 ⟨rfl, n1, rfl⟩
    go_wp2_with fail
    go_ret
    exact ⟨ret_bool (by rw [HB.out]; simp [h1]), _, rfl⟩
end Go.Proofs.YtmmbbndoimleaaaGreatDoor

/- Reading JSON, plain: blanks, words, digits, numbers, escapes, strings, values. -/
namespace Go.Proofs.YtmmbbndoimleaaaGreatDoor
open Go.RowKit

abbrev Flt := Int × Int
def blkB (c : Nat) : Bool := c == 32 || c == 9 || c == 10 || c == 13
/-- The place behind the bytes that q likes. -/
def runN (q : Nat → Bool) (S : ByteArray) : Nat → Nat → Nat
  | 0, i => i
  | n + 1, i => if q (nx S i) = true then runN q S n (i + 1) else i
def runF (q : Nat → Bool) (S : ByteArray) (i : Nat) : Nat := runN q S (S.size - i) i
theorem run_step {q : Nat → Bool} (h0 : q 0 = false) {S : ByteArray} {i : Nat} (h : q (nx S i) = true) : runF q S i = runF q S (i + 1) := by
  have hi : i < S.size := nx_in fun e => by rw [e, h0] at h; cases h
  unfold runF
  rw [show S.size - i = (S.size - (i + 1)) + 1 by omega, runN, if_pos h]
theorem run_stop {q : Nat → Bool} {S : ByteArray} {i : Nat} (h : q (nx S i) = false) : runF q S i = i := by
  unfold runF
  cases S.size - i with
  | zero => rfl
  | succ n => rw [runN, if_neg (by rw [h]; simp)]
theorem runN_ge (q : Nat → Bool) (S : ByteArray) : ∀ (n i : Nat), i ≤ runN q S n i
  | 0, _ => Nat.le_refl _
  | n + 1, i => by
    unfold runN
    split
    · have := runN_ge q S n (i + 1); omega
    · exact Nat.le_refl _
theorem runN_le (q : Nat → Bool) (S : ByteArray) : ∀ (n i : Nat), runN q S n i ≤ i + n
  | 0, _ => Nat.le_refl _
  | n + 1, i => by
    unfold runN
    split
    · have := runN_le q S n (i + 1); omega
    · omega
theorem run_ge (q : Nat → Bool) (S : ByteArray) (i : Nat) : i ≤ runF q S i := runN_ge q S _ i
theorem run_le (q : Nat → Bool) {S : ByteArray} {i : Nat} (h : i ≤ S.size) : runF q S i ≤ S.size := by
  have := runN_le q S (S.size - i) i
  unfold runF; omega
theorem run_end (q : Nat → Bool) (h0 : q 0 = false) (S : ByteArray) : ∀ (n i : Nat), S.size - i = n → q (nx S (runF q S i)) = false
  | 0, i, h => by
    have : nx S i = 0 := by unfold nx; rw [if_neg (by omega)]
    rw [run_stop (by rw [this]; exact h0), this]; exact h0
  | n + 1, i, h => by
    cases hq : q (nx S i) with
    | true => rw [run_step h0 hq]; exact run_end q h0 S n (i + 1) (by omega)
    | false => rw [run_stop hq]; exact hq
theorem runN_all (q : Nat → Bool) (S : ByteArray) : ∀ (n i m : Nat), i ≤ m → m < runN q S n i → q (nx S m) = true
  | 0, i, m, h1, h2 => by unfold runN at h2; omega
  | n + 1, i, m, h1, h2 => by
    unfold runN at h2
    split at h2
    · rcases Nat.eq_or_lt_of_le h1 with rfl | h
      · assumption
      · exact runN_all q S n (i + 1) m h h2
    · omega
theorem run_all {q : Nat → Bool} {S : ByteArray} {i m : Nat} (h1 : i ≤ m) (h2 : m < runF q S i) : q (nx S m) = true := runN_all q S _ i m h1 h2
abbrev blk (S : ByteArray) (i : Nat) : Nat := runF blkB S i
abbrev dge (S : ByteArray) (i : Nat) : Nat := runF digB S i
/-- A word that must stand here. -/
def wordF (S : ByteArray) : List UInt8 → Nat → Except Flt Nat
  | [], i => .ok i
  | c :: l, i => if nx S i = c.toNat then wordF S l (i + 1) else .error (19, i)
theorem word_len {S : ByteArray} : ∀ {l : List UInt8} {i j : Nat}, wordF S l i = .ok j → j = i + l.length
  | [], i, j, h => by injection h with h; simp; omega
  | c :: l, i, j, h => by
    unfold wordF at h
    split at h
    · have := word_len h; simp; omega
    · cases h
/-- So many digits from a place on, as a number. -/
def digN (S : ByteArray) (a : Nat) : Nat → Nat
  | 0 => 0
  | n + 1 => digN S a n * 10 + (nx S (a + n) - 48)
/-- Four decimal places of which those ahead of e stand. -/
def fracN (S : ByteArray) (a e u : Nat) : Nat → Nat
  | 0 => u
  | n + 1 => fracN S a e u n * 10 + (if a + n < e then nx S (a + n) - 48 else 0)
theorem dig_bounds {c : Nat} (h : digB c = true) : 48 ≤ c ∧ c ≤ 57 := by unfold digB at h; simpa using h
theorem digN_lt {S : ByteArray} {a : Nat} : ∀ (n : Nat), (∀ m, a ≤ m → m < a + n → digB (nx S m) = true) → digN S a n < 10 ^ n
  | 0, _ => by show 0 < 1; omega
  | n + 1, h => by
    have h1 := digN_lt n fun m h1 h2 => h m h1 (by omega)
    have h2 := dig_bounds (h (a + n) (by omega) (by omega))
    unfold digN
    rw [Nat.pow_succ]; omega
theorem digN_small {S : ByteArray} {a n : Nat} (h : ∀ m, a ≤ m → m < a + n → digB (nx S m) = true) (hn : n ≤ 15) : digN S a n < 1000000000000000 := by
  have h1 := digN_lt n h
  have h2 : 10 ^ n ≤ 10 ^ 15 := Nat.pow_le_pow_right (by decide) hn
  have h3 : (10 : Nat) ^ 15 = 1000000000000000 := by decide
  omega
theorem frac_mono (S : ByteArray) (a e u n : Nat) : ∀ k, fracN S a e u n ≤ fracN S a e u (n + k)
  | 0 => Nat.le_refl _
  | k + 1 => by
    have := frac_mono S a e u n k
    show _ ≤ fracN S a e u (n + k) * 10 + _
    omega
def numE (S : ByteArray) (i : Nat) : Except Flt (Int × Nat) :=
  let i1 := if nx S i = 45 then i + 1 else i
  if digB (nx S i1) = false then .error (19, i1) else
    let j := if nx S i1 = 48 then i1 + 1 else dge S i1
    if nx S j = 46 ∧ digB (nx S (j + 1)) = false then .error (19, (j + 1 : Nat)) else
      let e := if nx S j = 46 then dge S (j + 1) else j
      if 5 < e - j ∨ 15 < j - i1 then .error (1, i) else
        let u := fracN S (j + 1) e (digN S i1 (j - i1)) 4
        if 1000000000000000 < u then .error (1, i) else .ok (if i1 = i then (u : Int) else -(u : Int), e)
def hexV (c : Nat) : Option Nat := if digB c = true then some (c - 48) else if 97 ≤ c ∧ c ≤ 102 then some (c - 87) else if 65 ≤ c ∧ c ≤ 70 then some (c - 55) else none
/-- An escape; its backslash stands at i. -/
def escF (S : ByteArray) (i : Nat) : Except Flt (Nat × Nat) :=
  let c := nx S (i + 1)
  if c = 34 ∨ c = 92 ∨ c = 47 then .ok (c, i + 2)
  else if c = 98 then .ok (8, i + 2)
  else if c = 116 then .ok (9, i + 2)
  else if c = 110 then .ok (10, i + 2)
  else if c = 102 then .ok (12, i + 2)
  else if c = 114 then .ok (13, i + 2)
  else if c = 117 then
    match wordF S [48, 48] (i + 2) with
    | .error f => .error f
    | .ok j => match hexV (nx S j) with
      | none => .error (19, j)
      | some a => match hexV (nx S (j + 1)) with
        | none => .error (19, (j + 1 : Nat))
        | some b => .ok (16 * a + b, j + 2)
  else .error (19, (i + 1 : Nat))
/-- The rest of a string, so many places at most. -/
def strL (S : ByteArray) : Nat → Nat → ByteArray → Except Flt (ByteArray × Nat)
  | 0, i, _ => .error (19, i)
  | n + 1, i, o =>
    if nx S i = 34 then .ok (o, i + 1)
    else if nx S i = 92 then match escF S i with
      | .error f => .error f
      | .ok (c, j) => strL S n j (o.push (UInt8.ofNat c))
    else if S.size ≤ i ∨ nx S i < 32 ∨ 126 < nx S i then .error (19, i)
    else strL S n (i + 1) (o.push (UInt8.ofNat (nx S i)))
def strF (S : ByteArray) (i : Nat) : Except Flt (ByteArray × Nat) :=
  match wordF S [34] i with
  | .error f => .error f
  | .ok j => strL S (S.size + 1 - j) j ByteArray.empty
end Go.Proofs.YtmmbbndoimleaaaGreatDoor

/- blanks, word. -/
namespace Go.Proofs.YtmmbbndoimleaaaGreatDoor
open Go.RowKit Go.Shelf

theorem idx_blank : ∀ c : Fin 256, decide (0 ≤ Lib.indexByte [32, 9, 10, 13] c.val.toUInt8) = blkB c.val := by decide +kernel
theorem indexByte_run (s : ByteArray) (c : Nat) (w : World) :
    Calls Tryz.prog 35 #[.string s, .int .u8 c] w fun e w' => e = .returned (.int .i64 (Lib.indexByte s.data.toList c.toUInt8)) ∧ w' = w :=
  Any.strings_IndexByte indexByteL s c w

theorem nx_at {S : ByteArray} {i : Nat} (h : i < S.size) : nx S i = (S[i]).toNat := by unfold nx; rw [if_pos h, get_bang h]
theorem nx_past {S : ByteArray} {i : Nat} (h : ¬ i < S.size) : nx S i = 0 := by unfold nx; rw [if_neg h]
/-- What a call without results does to the parser. -/
def UPost (g : Nat) (S : ByteArray) (w : World) (j : Nat) (e : Ending) (w' : World) : Prop := e = .returned (.tuple #[]) ∧ Pr w' g S j ∧ Px g w w'
def FPost (g : Nat) (w : World) (f : Flt) (e : Ending) (w' : World) : Prop := e = .panicked [{ v := fV f, recovered := false }] ∧ Px g w w'

set_option maxRecDepth 20000 in
set_option maxHeartbeats 1000000 in
theorem blanks_run (S : ByteArray) (g i : Nat) (w : World) (h : Pr w g S i) (hS : S.size ≤ 1000000000) (hi : i ≤ S.size) :
    Calls Tryz.prog 23 #[.pointer (some ⟨g, 0, none⟩)] w (UPost g S w (blk S i)) := by
  obtain ⟨B, hB⟩ : ∃ b, b = blk S i := ⟨_, rfl⟩
  rw [← hB]
  have H0 := hide (show Pr w g S i ∧ Px g w w ∧ B = blk S i from ⟨h, Px.refl, hB⟩)
  clear h hB
  go_enter Tryz.func23, Tryz.ntmps23
  go_wp2_with fail
  go_loopw [2] (fun _ wr => ∃ k : Nat, k ≤ S.size ∧ Hid (Pr wr g S k ∧ Px g w wr ∧ B = blk S k)) (fun _ wr => S.size - atOf wr g)
  case atStart => exact ⟨i, hi, H0⟩
  case round =>
    clear H0
    obtain ⟨k, hk, hR⟩ := hrel
    obtain ⟨c0, c1, f1⟩ := hR.out.1.cells
    by_cases hlt : k < S.size
    · obtain ⟨c, hc⟩ : ∃ c, c = (S[k]).toNat := ⟨_, rfl⟩
      have hc2 : c < 256 := by rw [hc]; exact (S[k]).toNat_lt
      obtain ⟨r, hr⟩ : ∃ r, r = Lib.indexByte [32, 9, 10, 13] c.toUInt8 := ⟨_, rfl⟩
      have hb := idx_blank ⟨c, hc2⟩
      rw [← hr] at hb
      have HI := hide fun W => indexByte_run ⟨#[32, 9, 10, 13]⟩ c W
      rw [← hr] at HI
      have HC := hide (show nx S k = c by rw [hc]; exact nx_at hlt)
      have hS2 : (S[k]).toNat = c := hc.symm
      clear hr hc
      cases hq : blkB c with
      | true =>
        rw [hq] at hb
        have HN := hide (show B = blk S (k + 1) by rw [hR.out.2.2]; exact run_step rfl (by rw [HC.out]; exact hq))
        clear hq
        go_wp2_with fail
        go_quiet ((go_at_call 35; exact Calls.quiet_of_same (HI.out _)))
        go_wp2_with fail
        go_roundw
        case rel => exact ⟨k + 1, hlt, hide ⟨(hR.out.1.drewN _).set_ (k + 1), (hR.out.2.1.drewN _).set_ 1 _, HN.out⟩⟩
        case measure =>
          have e1 : atOf ((wr.drewN nq).setCell ⟨g, 1, none⟩ (.int .i64 ((k : Int) + 1))) g = k + 1 := ((hR.out.1.drewN nq).set_ (k + 1)).at_
          rw [e1, hR.out.1.at_]; omega
      | false =>
        rw [hq] at hb
        have HN := hide (show B = k by rw [hR.out.2.2]; exact run_stop (by rw [HC.out]; exact hq))
        clear hq
        go_wp2_with fail
        go_quiet ((go_at_call 35; exact Calls.quiet_of_same (HI.out _)))
        go_wp2_with fail
        go_end0
        exact ⟨rfl, by rw [HN.out]; exact hR.out.1.drewN _, hR.out.2.1.drewN _⟩
    · have HN := hide (show B = k by rw [hR.out.2.2]; exact run_stop (by rw [nx_past hlt]; rfl))
      go_wp2_with fail
      go_quiet (fail)
      go_wp2_with fail
      go_end0
      exact ⟨rfl, by rw [HN.out]; exact hR.out.1.drewN _, hR.out.2.1.drewN _⟩
/-- A call that goes on at a place, or ends in a fault. -/
def RPost (g : Nat) (S : ByteArray) (w : World) (r : Except Flt Nat) : Ending → World → Prop :=
  match r with
  | .ok j => UPost g S w j
  | .error f => FPost g w f
theorem drop_cons {l : List UInt8} {m : Nat} {c : UInt8} (h : l[m]? = some c) : l.drop m = c :: l.drop (m + 1) := by
  obtain ⟨h1, h2⟩ := List.getElem?_eq_some_iff.1 h
  rw [List.drop_eq_getElem_cons h1, h2]

set_option maxRecDepth 20000 in
set_option maxHeartbeats 1000000 in
theorem word_run (S W : ByteArray) (g i : Nat) (w : World) (h : Pr w g S i) (hi : i ≤ 2000000000) (hW : W.size ≤ 1000) :
    Calls Tryz.prog 37 #[.pointer (some ⟨g, 0, none⟩), .string W] w (RPost g S w (wordF S W.data.toList i)) := by
  obtain ⟨r, hr⟩ : ∃ r, r = wordF S W.data.toList i := ⟨_, rfl⟩
  rw [← hr]
  have HN := hide fun k V (h : Pr V g S k) => next_run S g k V h
  have HF := hide fun k V => fail_run (.pointer (some ⟨g, 0, none⟩)) 19 (k : Nat) V
  have H0 := hide (show Pr w g S (i + 0) ∧ Px g w w ∧ r = wordF S (W.data.toList.drop 0) (i + 0) from ⟨h, Px.refl, hr⟩)
  obtain ⟨N, hN⟩ : ∃ n, n = W.size := ⟨_, rfl⟩
  have HNN := Lib.hid hN
  rw [← hN] at hW
  have HLEN : W.data.toList.length = W.size := Array.length_toList
  have HLE := Lib.hid HLEN
  clear h hr hN HLEN
  go_enter Tryz.func37, Tryz.ntmps37
  go_wp2_with fail
  rw [← HNN.out]
  go_loopw [4, 7] (fun _ mv wr => ∃ m : Nat, mv = .int .i64 m ∧ m ≤ N ∧ Hid (Pr wr g S (i + m) ∧ Px g w wr ∧ r = wordF S (W.data.toList.drop m) (i + m))) (fun _ mv _ => N - (intOf mv).toNat)
  case atStart => exact ⟨0, rfl, Nat.zero_le _, H0⟩
  case round =>
    clear H0
    obtain ⟨m, rfl, hm, hR⟩ := hrel
    obtain ⟨c0, c1, f1⟩ := hR.out.1.cells
    by_cases hlt : m < N
    · have hlt' : m < W.size := by rw [← HNN.out]; exact hlt
      obtain ⟨c, hc⟩ : ∃ c, c = W[m] := ⟨_, rfl⟩
      have hcl : W.data.toList[m]? = some c := by
        rw [hc, List.getElem?_eq_getElem (by rw [HLE.out]; exact hlt')]; rfl
      have HD := hide (show r = if nx S (i + m) = c.toNat then wordF S (W.data.toList.drop (m + 1)) (i + m + 1) else .error (19, ((i + m : Nat) : Int)) by
        rw [hR.out.2.2, drop_cons hcl, wordF])
      obtain ⟨x, hx⟩ : ∃ x, x = nx S (i + m) := ⟨_, rfl⟩
      have HN1 := hide fun V (h : Pr V g S (i + m)) => HN.out (i + m) V h
      rw [← hx] at HN1 HD
      have hW2 : W[m] = c := hc.symm
      obtain ⟨y, hy⟩ : ∃ y, y = c.toNat := ⟨_, rfl⟩
      rw [← hy] at HD
      have HY := Lib.hid hy
      clear hx hc hcl hy
      go_wp2_with fail
      go_quiet ((go_at_call 36; exact Calls.quiet_of (HN1.out _ (hR.out.1.drewN _))))
      rw [← HY.out]
      by_cases hq : x = y
      · subst hq
        have HN2 := hide (show r = wordF S (W.data.toList.drop (m + 1)) (i + (m + 1)) by rw [HD.out, if_pos rfl]; rfl)
        clear HD HN HN1 HF
        go_wp2_with fail
        go_roundw
        case rel => exact ⟨m + 1, by go_num, hlt, hide ⟨(hR.out.1.drewN _).set_ (i + (m + 1)), (hR.out.2.1.drewN _).set_ 1 _, HN2.out⟩⟩
        case measure => simp [intOf]; omega
      · have g1 : ((x : Int) != (y : Int)) = true := by simp; omega
        have HN2 := hide (show r = .error (19, ((i + m : Nat) : Int)) by rw [HD.out, if_neg hq])
        clear HD HN HN1 hq
        go_wp2_with fail
        refine (HF.out (i + m) _).mono ?_; rintro e w1 ⟨rfl, rfl⟩
        go_wp2_with fail
        rw [HN2.out]
        exact ⟨rfl, rfl, hR.out.2.1.drewN _⟩
    · have HN2 := hide (show r = .ok (i + m) by
        rw [hR.out.2.2, List.drop_eq_nil_of_le (by rw [HLE.out, ← HNN.out]; omega)]; rfl)
      go_wp2_with fail
      go_end0
      rw [HN2.out]
      exact ⟨rfl, hR.out.1, hR.out.2.1⟩
end Go.Proofs.YtmmbbndoimleaaaGreatDoor

/- hex, escape. -/
namespace Go.Proofs.YtmmbbndoimleaaaGreatDoor
open Go.RowKit

def hexDigits : ByteArray := ⟨#[48, 49, 50, 51, 52, 53, 54, 55, 56, 57, 97, 98, 99, 100, 101, 102]⟩
def hexI (c : Nat) : Int := Lib.indexByte [48, 49, 50, 51, 52, 53, 54, 55, 56, 57, 97, 98, 99, 100, 101, 102] c.toUInt8
def hexR (c : Nat) : Nat × Bool := match hexV c with
  | some v => (v, true)
  | none => (0, false)
theorem hex_facts : ∀ c : Fin 256, (if 65 ≤ c.val ∧ c.val ≤ 70 then hexR c.val = (c.val - 55, true) else hexR c.val = if hexI c.val < 0 then (0, false) else ((hexI c.val).toNat, true)) ∧ -1 ≤ hexI c.val ∧ hexI c.val ≤ 15 := by decide +kernel

theorem ret_hex {a b : Int} {p q : Bool} (h1 : a = b) (h2 : p = q) : Ending.returned (.tuple #[.int .u8 a, .bool p]) = .returned (.tuple #[.int .u8 b, .bool q]) := by rw [h1, h2]
set_option maxHeartbeats 1000000 in
theorem hex_run (c : Nat) (hc : c < 256) (w : World) :
    Calls Tryz.prog 87 #[.int .u8 c] w fun e w' => e = .returned (.tuple #[.int .u8 (hexR c).1, .bool (hexR c).2]) ∧ w = w' := by
  obtain ⟨h1, h2, h3⟩ := hex_facts ⟨c, hc⟩
  have HI := hide (show Calls Tryz.prog 35 #[.string hexDigits, .int .u8 c] w fun e w' => e = .returned (.int .i64 (hexI c)) ∧ w' = w from indexByte_run hexDigits c w)
  simp only at h1 h2 h3
  obtain ⟨r, hr⟩ : ∃ r, r = hexI c := ⟨_, rfl⟩
  rw [← hr] at h1 h2 h3 HI
  obtain ⟨R, hR⟩ : ∃ r, r = hexR c := ⟨_, rfl⟩
  rw [← hR] at h1 ⊢
  clear hr hR
  unfold hexDigits at HI
  by_cases hu : 65 ≤ c ∧ c ≤ 70
  · rw [if_pos hu] at h1
    subst h1
    obtain ⟨u1, u2⟩ := hu
    go_enter Tryz.func87, Tryz.ntmps87
    go_wp2_with fail
    refine HI.out.mono ?_; rintro e w1 ⟨rfl, rfl⟩
    go_wp2_with fail
    go_ret2
    exact ⟨ret_hex (by omega) (by first | (simp; done) | (simp; omega)), rfl⟩
  · rw [if_neg hu] at h1
    by_cases hn : r < 0
    · rw [if_pos hn] at h1
      obtain rfl : r = -1 := by omega
      subst h1
      go_enter Tryz.func87, Tryz.ntmps87
      by_cases h65 : 65 ≤ c
      · have d1 : decide ((65 : Int) ≤ (c : Int)) = true := by simp; omega
        have d2 : decide ((c : Int) ≤ 70) = false := by simp; omega
        go_wp2_with fail
        refine HI.out.mono ?_; rintro e w1 ⟨rfl, rfl⟩
        go_wp2_with fail
        go_ret2
        exact ⟨ret_hex (by decide) rfl, rfl⟩
      · have d1 : decide ((65 : Int) ≤ (c : Int)) = false := by simp; omega
        go_wp2_with fail
        refine HI.out.mono ?_; rintro e w1 ⟨rfl, rfl⟩
        go_wp2_with fail
        go_ret2
        exact ⟨ret_hex (by decide) rfl, rfl⟩
    · rw [if_neg hn] at h1
      subst h1
      have d0 : (0 : Int) ≤ r := by omega
      go_enter Tryz.func87, Tryz.ntmps87
      by_cases h65 : 65 ≤ c
      · have d1 : decide ((65 : Int) ≤ (c : Int)) = true := by simp; omega
        have d2 : decide ((c : Int) ≤ 70) = false := by simp; omega
        go_wp2_with fail
        refine HI.out.mono ?_; rintro e w1 ⟨rfl, rfl⟩
        go_wp2_with fail
        go_ret2
        exact ⟨ret_hex (by omega) (by first | (simp; done) | (simp; omega)), rfl⟩
      · have d1 : decide ((65 : Int) ≤ (c : Int)) = false := by simp; omega
        go_wp2_with fail
        refine HI.out.mono ?_; rintro e w1 ⟨rfl, rfl⟩
        go_wp2_with fail
        go_ret2
        exact ⟨ret_hex (by omega) (by first | (simp; done) | (simp; omega)), rfl⟩
end Go.Proofs.YtmmbbndoimleaaaGreatDoor

/- escape. -/
namespace Go.Proofs.YtmmbbndoimleaaaGreatDoor
open Go.RowKit

def EPost (g : Nat) (S : ByteArray) (w : World) (r : Except Flt (Nat × Nat)) (e : Ending) (w' : World) : Prop :=
  match r with
  | .ok (c, j) => e = .returned (.int .u8 c) ∧ Pr w' g S j ∧ Px g w w'
  | .error f => FPost g w f e w'
theorem hex_small {c a : Nat} (h : hexV c = some a) : a < 16 := by
  unfold hexV at h
  split at h
  · rename_i hd; unfold digB at hd; simp at hd; injection h with h; omega
  · split at h
    · injection h with h; omega
    · split at h
      · injection h with h; omega
      · cases h
theorem hex_zero : hexV 0 = none := by decide

theorem or_zero : ∀ b : Fin 16, bits BinOp.or IntKind.u8 0 (b.val : Int) = (b.val : Int) := by decide +kernel

theorem or_shift : ∀ a b : Fin 16, bits BinOp.or IntKind.u8 ((a.val : Int) * 16) (b.val : Int) = ((16 * a.val + b.val : Nat) : Int) := by decide +kernel

set_option maxRecDepth 20000 in
set_option maxHeartbeats 4000000 in
theorem jescape_run (S : ByteArray) (g i : Nat) (w : World) (h : Pr w g S i) (hi : i ≤ 1000000000) :
    Calls Tryz.prog 65 #[.pointer (some ⟨g, 0, none⟩)] w (EPost g S w (escF S i)) := by
  obtain ⟨r, hr⟩ : ∃ r, r = escF S i := ⟨_, rfl⟩
  rw [← hr]
  unfold escF at hr
  have HN := hide fun k V (h : Pr V g S k) => next_run S g k V h
  have HF := hide fun k V => fail_run (.pointer (some ⟨g, 0, none⟩)) 19 (k : Nat) V
  obtain ⟨c0, c1, f1⟩ := h.cells
  have HP := hide h
  obtain ⟨c, hc⟩ : ∃ c, c = nx S (i + 1) := ⟨_, rfl⟩
  have hc2 := nx_lt S (i + 1)
  have HN1 := hide fun V (h : Pr V g S (i + 1)) => HN.out (i + 1) V h
  rw [← hc] at HN1 hr hc2
  simp only at hr
  have HR := Lib.hid hr
  clear hr hc h
  go_enter Tryz.func65, Tryz.ntmps65
  go_upto_region 2 with fail
  obtain ⟨wa, hwa⟩ : ∃ W, W = w.setCell ⟨g, 1, none⟩ (.int .i64 ((i : Int) + 1)) := ⟨_, rfl⟩
  have HP1 := hide (show Pr wa g S (i + 1) by rw [hwa]; exact HP.out.set_ (i + 1))
  have HX1 := hide (show Px g w wa by rw [hwa]; exact Px.refl.set_ 1 _)
  rw [← hwa]
  clear hwa HP c0 c1 f1
  go_wp2_with fail
  refine (HN1.out _ HP1.out).mono ?_; rintro e w1 ⟨rfl, n1, rfl⟩
  obtain ⟨c0, c1, f1⟩ := (HP1.out.drewN n1).cells
  have HP2 := hide (HP1.out.drewN n1)
  have HX2 := hide (HX1.out.drewN n1)
  obtain ⟨wb, hwb⟩ : ∃ W, W = wa.drewN n1 := ⟨_, rfl⟩
  rw [← hwb] at HP2 HX2 c0 c1 f1 ⊢
  clear hwb HP1 HX1
  by_cases h34 : c = 34
  · subst h34
    have HE := hide (show r = .ok (34, i + 2) from HR.out)
    clear HR
    go_wp2_with fail
    go_ret
    rw [HE.out]
    exact ⟨rfl, HP2.out.set_ (i + 2), HX2.out.set_ 1 _⟩
  by_cases h92 : c = 92
  · subst h92
    have HE := hide (show r = .ok (92, i + 2) from HR.out)
    clear HR
    go_wp2_with fail
    go_ret
    rw [HE.out]
    exact ⟨rfl, HP2.out.set_ (i + 2), HX2.out.set_ 1 _⟩
  by_cases h47 : c = 47
  · subst h47
    have HE := hide (show r = .ok (47, i + 2) from HR.out)
    clear HR
    go_wp2_with fail
    go_ret
    rw [HE.out]
    exact ⟨rfl, HP2.out.set_ (i + 2), HX2.out.set_ 1 _⟩
  by_cases h98 : c = 98
  · subst h98
    have HE := hide (show r = .ok (8, i + 2) from HR.out)
    clear HR
    go_wp2_with fail
    go_ret
    rw [HE.out]
    exact ⟨rfl, HP2.out.set_ (i + 2), HX2.out.set_ 1 _⟩
  by_cases h116 : c = 116
  · subst h116
    have HE := hide (show r = .ok (9, i + 2) from HR.out)
    clear HR
    go_wp2_with fail
    go_ret
    rw [HE.out]
    exact ⟨rfl, HP2.out.set_ (i + 2), HX2.out.set_ 1 _⟩
  by_cases h110 : c = 110
  · subst h110
    have HE := hide (show r = .ok (10, i + 2) from HR.out)
    clear HR
    go_wp2_with fail
    go_ret
    rw [HE.out]
    exact ⟨rfl, HP2.out.set_ (i + 2), HX2.out.set_ 1 _⟩
  by_cases h102 : c = 102
  · subst h102
    have HE := hide (show r = .ok (12, i + 2) from HR.out)
    clear HR
    go_wp2_with fail
    go_ret
    rw [HE.out]
    exact ⟨rfl, HP2.out.set_ (i + 2), HX2.out.set_ 1 _⟩
  by_cases h114 : c = 114
  · subst h114
    have HE := hide (show r = .ok (13, i + 2) from HR.out)
    clear HR
    go_wp2_with fail
    go_ret
    rw [HE.out]
    exact ⟨rfl, HP2.out.set_ (i + 2), HX2.out.set_ 1 _⟩
  have d34 : ((c : Int) == 34) = false := by simp; omega
  have d92 : ((c : Int) == 92) = false := by simp; omega
  have d47 : ((c : Int) == 47) = false := by simp; omega
  have d98 : ((c : Int) == 98) = false := by simp; omega
  have d116 : ((c : Int) == 116) = false := by simp; omega
  have d110 : ((c : Int) == 110) = false := by simp; omega
  have d102 : ((c : Int) == 102) = false := by simp; omega
  have d114 : ((c : Int) == 114) = false := by simp; omega
  by_cases h117 : c = 117
  · subst h117
    have HE := hide (show r = match wordF S [48, 48] (i + 2) with
      | .error f => .error f
      | .ok j => match hexV (nx S j) with
        | none => .error (19, (j : Int))
        | some a => match hexV (nx S (j + 1)) with
          | none => .error (19, ((j + 1 : Nat) : Int))
          | some b => .ok (16 * a + b, j + 2) from HR.out)
    clear HR h34 h92 h47 h98 h116 h110 h102 h114 HN1 d34 d92 d47 d98 d116 d110 d102 d114
    have HW := hide fun V (h : Pr V g S (i + 2)) => word_run S ⟨#[48, 48]⟩ g (i + 2) V h (by omega) (by decide)
    go_upto_region 20 with fail
    obtain ⟨wc, hwc⟩ : ∃ W, W = wb.setCell ⟨g, 1, none⟩ (.int .i64 ((i : Int) + 1 + 1)) := ⟨_, rfl⟩
    have HP3 := hide (show Pr wc g S (i + 2) by rw [hwc]; exact HP2.out.set_ (i + 2))
    have HX3 := hide (show Px g w wc by rw [hwc]; exact HX2.out.set_ 1 _)
    rw [← hwc]
    clear hwc HP2 HX2 c0 c1 f1
    obtain ⟨q, hq⟩ : ∃ q, q = wordF S [48, 48] (i + 2) := ⟨_, rfl⟩
    rw [← hq] at HE HW
    have HQ := Lib.hid hq
    clear hq
    go_wp2_with fail
    refine (HW.out _ HP3.out).mono ?_
    cases q with
    | error f =>
      rintro e w1 ⟨rfl, hx⟩
      have HE2 := hide (show r = .error f from HE.out)
      have HX4 := hide (HX3.out.trans hx)
      clear hx HE
      go_wp2_with fail
      rw [HE2.out]
      exact ⟨rfl, rfl, HX4.out⟩
    | ok j =>
      rintro e w1 ⟨rfl, hP, hx⟩
      have hj : j = i + 4 := word_len HQ.out.symm
      have hj2 : j ≤ 1000000004 := by omega
      have HE2 := hide (show r = match hexV (nx S j) with
        | none => .error (19, (j : Int))
        | some a => match hexV (nx S (j + 1)) with
          | none => .error (19, ((j + 1 : Nat) : Int))
          | some b => .ok (16 * a + b, j + 2) from HE.out)
      have HP4 := hide hP; have HX4 := hide (HX3.out.trans hx)
      clear hx hP HE HQ HW HP3 HX3 hj
      go_wp2_with fail
      go_loopw [4, 49] (fun nv iv wr => (nv = .int .u8 0 ∧ iv = .int .i64 0 ∧ Hid (Pr wr g S j ∧ Px g w wr)) ∨ (∃ a : Nat, nv = .int .u8 a ∧ iv = .int .i64 1 ∧ Hid (Pr wr g S (j + 1) ∧ Px g w wr ∧ hexV (nx S j) = some a)) ∨ (∃ a : Nat, nv = .int .u8 a ∧ iv = .int .i64 2 ∧ Hid (Pr wr g S (j + 1) ∧ Px g w wr ∧ r = .ok (a, j + 2)))) (fun _ iv _ => 2 - (intOf iv).toNat)
      case atStart => exact .inl ⟨rfl, rfl, hide ⟨HP4.out, HX4.out⟩⟩
      case round =>
        clear HP4 HX4
        rcases hrel with ⟨rfl, rfl, hR⟩ | ⟨a, rfl, rfl, hR⟩ | ⟨a, rfl, rfl, hR⟩
        · obtain ⟨x, hx⟩ : ∃ x, x = nx S j := ⟨_, rfl⟩
          have hx2 := nx_lt S j
          have HN1 := hide fun V (h : Pr V g S j) => HN.out j V h
          rw [← hx] at hx2 HN1
          have HH := hide fun V => hex_run x hx2 V
          have HXX := Lib.hid hx
          obtain ⟨hv, hhv⟩ : ∃ v, v = hexV x := ⟨_, rfl⟩
          unfold hexR at HH
          rw [← hhv] at HH
          have HHV := Lib.hid hhv
          clear hx hhv
          cases hv with
          | none =>
            have HE3 := hide (show r = .error (19, ((j : Nat) : Int)) by
              rw [HE2.out, ← HXX.out, ← HHV.out])
            obtain ⟨c0, c1, f1⟩ := hR.out.1.cells
            clear HE2
            go_wp2_with fail
            refine (HN1.out _ hR.out.1).mono ?_; rintro e w2 ⟨rfl, n2, rfl⟩
            go_wp2_with fail
            refine (HH.out _).mono ?_; rintro e w2 ⟨rfl, rfl⟩
            go_wp2_with fail
            go_quiet (fail)
            go_wp2_with fail
            refine (HF.out j _).mono ?_; rintro e w2 ⟨rfl, rfl⟩
            go_wp2_with fail
            rw [HE3.out]
            exact ⟨rfl, rfl, hR.out.2.drewN _⟩
          | some b =>
            have hb := hex_small HHV.out.symm
            have hsz : j < S.size := nx_in (by rw [← HXX.out]; rintro rfl; have := HHV.out; rw [hex_zero] at this; cases this)
            obtain ⟨c0, c1, f1⟩ := hR.out.1.cells
            have ho := or_zero ⟨b, hb⟩
            simp only at ho
            go_wp2_with fail
            refine (HN1.out _ hR.out.1).mono ?_; rintro e w2 ⟨rfl, n2, rfl⟩
            go_wp2_with fail
            refine (HH.out _).mono ?_; rintro e w2 ⟨rfl, rfl⟩
            go_wp2_with fail
            go_quiet (fail)
            go_wp2_with fail
            go_roundw
            case rel => exact .inr (.inl ⟨b, rfl, rfl, hide ⟨(hR.out.1.drewN _).set_ (j + 1), (hR.out.2.drewN _).set_ 1 _, by rw [← HXX.out]; exact HHV.out.symm⟩⟩)
            case measure => simp [intOf]
        · obtain ⟨x, hx⟩ : ∃ x, x = nx S (j + 1) := ⟨_, rfl⟩
          have hx2 := nx_lt S (j + 1)
          have HN1 := hide fun V (h : Pr V g S (j + 1)) => HN.out (j + 1) V h
          rw [← hx] at hx2 HN1
          have HH := hide fun V => hex_run x hx2 V
          have HXX := Lib.hid hx
          obtain ⟨hv, hhv⟩ : ∃ v, v = hexV x := ⟨_, rfl⟩
          unfold hexR at HH
          rw [← hhv] at HH
          have HHV := Lib.hid hhv
          clear hx hhv
          cases hv with
          | none =>
            have HE3 := hide (show r = .error (19, (((j + 1) : Nat) : Int)) by
              rw [HE2.out, hR.out.2.2]; simp only []; rw [← HXX.out, ← HHV.out])
            obtain ⟨c0, c1, f1⟩ := hR.out.1.cells
            clear HE2
            go_wp2_with fail
            refine (HN1.out _ hR.out.1).mono ?_; rintro e w2 ⟨rfl, n2, rfl⟩
            go_wp2_with fail
            refine (HH.out _).mono ?_; rintro e w2 ⟨rfl, rfl⟩
            go_wp2_with fail
            go_quiet (fail)
            go_wp2_with fail
            refine (HF.out (j + 1) _).mono ?_; rintro e w2 ⟨rfl, rfl⟩
            go_wp2_with fail
            rw [HE3.out]
            exact ⟨rfl, rfl, hR.out.2.1.drewN _⟩
          | some b =>
            have hb := hex_small HHV.out.symm
            have ha := hex_small hR.out.2.2
            have ho := or_shift ⟨a, ha⟩ ⟨b, hb⟩
            simp only at ho
            have hsz : (j + 1) < S.size := nx_in (by rw [← HXX.out]; rintro rfl; have := HHV.out; rw [hex_zero] at this; cases this)
            obtain ⟨c0, c1, f1⟩ := hR.out.1.cells
            go_wp2_with fail
            refine (HN1.out _ hR.out.1).mono ?_; rintro e w2 ⟨rfl, n2, rfl⟩
            go_wp2_with fail
            refine (HH.out _).mono ?_; rintro e w2 ⟨rfl, rfl⟩
            go_wp2_with fail
            go_quiet (fail)
            have HE3 := hide (show r = .ok (16 * a + b, j + 2) by rw [HE2.out, hR.out.2.2]; simp only []; rw [← HXX.out, ← HHV.out])
            go_wp2_with fail
            go_roundw
            case rel => exact .inr (.inr ⟨16 * a + b, by first | rfl | rw [ho], rfl, hide ⟨hR.out.1.drewN _, hR.out.2.1.drewN _, HE3.out⟩⟩)
            case measure => simp [intOf]
        · obtain ⟨c0, c1, f1⟩ := hR.out.1.cells
          go_wp2_with fail
          go_ret
          rw [hR.out.2.2]
          exact ⟨rfl, hR.out.1.set_ (j + 2), hR.out.2.1.set_ 1 _⟩
  · have d117 : ((c : Int) == 117) = false := by simp; omega
    have HE := hide (show r = .error (19, ((i + 1 : Nat) : Int)) by
      rw [HR.out, if_neg (by omega), if_neg h98, if_neg h116, if_neg h110, if_neg h102, if_neg h114, if_neg h117])
    clear HR h34 h92 h47 h98 h116 h110 h102 h114 h117
    go_wp2_with fail
    refine (HF.out (i + 1) _).mono ?_; rintro e w1 ⟨rfl, rfl⟩
    go_wp2_with fail
    rw [HE.out]
    exact ⟨rfl, rfl, HX2.out⟩
end Go.Proofs.YtmmbbndoimleaaaGreatDoor

/- size, short and Small of the reference. -/
namespace Go.Proofs.YtmmbbndoimleaaaGreatDoor
open Go.RowKit

/-- The loop of size. -/
def loopS (f : Dt → Int → Int) (most : Int) : List Dt → Int → Int
  | [], n => n
  | x :: l, n => if n ≤ most then loopS f most l (n + f x (most - n)) else n
def sizeF : Nat → Dt → Int → Int
  | 0, _, _ => 0
  | m + 1, d, most => loopS (sizeF m) most (kids d) 1
theorem loopS_le (f : Dt → Int → Int) (hf : ∀ x b, 0 ≤ b → 0 ≤ f x b ∧ f x b ≤ b + 1) (most : Int) : ∀ (l : List Dt) (n : Int), 1 ≤ n → n ≤ most + 1 → 1 ≤ loopS f most l n ∧ loopS f most l n ≤ most + 1
  | [], n, h1, h2 => ⟨h1, h2⟩
  | x :: l, n, h1, h2 => by
    unfold loopS
    split
    · have := hf x (most - n) (by omega)
      exact loopS_le f hf most l _ (by omega) (by omega)
    · exact ⟨h1, h2⟩
theorem sizeF_le : ∀ (m : Nat) (d : Dt) (most : Int), 0 ≤ most → 0 ≤ sizeF m d most ∧ sizeF m d most ≤ most + 1
  | 0, _, most, h => by simp [sizeF]; omega
  | m + 1, d, most, h => by
    have := loopS_le (sizeF m) (fun x b hb => sizeF_le m x b hb) most (kids d) 1 (by omega) (by omega)
    unfold sizeF; omega
theorem loopS_append (f : Dt → Int → Int) (most : Int) : ∀ (a b : List Dt) (n : Int), loopS f most (a ++ b) n = loopS f most b (loopS f most a n)
  | [], b, n => rfl
  | x :: a, b, n => by
    by_cases h : n ≤ most
    · rw [List.cons_append, loopS, if_pos h, loopS, if_pos h]; exact loopS_append f most a b _
    · rw [List.cons_append, loopS, if_neg h, loopS, if_neg h]
      cases b with
      | nil => rfl
      | cons y b => rw [loopS, if_neg h]

set_option maxRecDepth 20000 in
set_option maxHeartbeats 1000000 in
theorem size_run : ∀ (m : Nat) (d : Dt) (A : Option Addr) (c : Nat) (A' : Option Addr) (c' : Nat) (most : Int) (w : World), 0 ≤ most → most ≤ 2000000000 → Parts w w.heap.size m d A c A' c' →
    Calls Tryz.prog 17 #[datV d A c A' c', .int .i64 most] w fun e w' => e = .returned (.int .i64 (sizeF m d most)) ∧ Below w.heap.size w w' := by
  intro m
  induction m with
  | zero => intro d  A  c  A'  c'  most  w  _  _  hp; exact hp.elim
  | succ m ih =>
    intro d  A  c  A'  c'  most  w  hm0  hm1  hp
    obtain ⟨h1, h2, h3, h4⟩ := hp.lens
    have hm := maxLen_le h2; have hm' := maxLen_le h4
    have HI := Lib.hid hp.2.1; have HM := Lib.hid hp.2.2
    obtain ⟨res, hres⟩ : ∃ k, k = sizeF (m + 1) d most := ⟨_, rfl⟩
    rw [← hres]
    unfold sizeF kids at hres
    unfold datV datCs
    obtain ⟨k, hk⟩ : ∃ k, k = kD d := ⟨_, rfl⟩
    obtain ⟨n, hn⟩ : ∃ k, k = nD d := ⟨_, rfl⟩
    obtain ⟨s, hs⟩ : ∃ k, k = sD d := ⟨_, rfl⟩
    obtain ⟨IS, hIS⟩ : ∃ k, k = iD d := ⟨_, rfl⟩
    obtain ⟨MS, hMS⟩ : ∃ k, k = mD d := ⟨_, rfl⟩
    rw [← hIS, ← hMS] at hres
    rw [← hk, ← hn, ← hs, ← hIS, ← hMS]
    rw [← hIS] at h1 HI
    rw [← hMS] at h3 HM
    obtain ⟨x, hx⟩ : ∃ k, k = IS.length := ⟨_, rfl⟩
    obtain ⟨y, hy⟩ : ∃ k, k = MS.length := ⟨_, rfl⟩
    rw [← hx, ← hy]
    rw [← hx] at h1
    rw [← hy] at h3
    have HRES := Lib.hid hres; have HX := Lib.hid hx; have HY := Lib.hid hy
    clear hk hn hs hx hy hIS hMS h2 h4 hres hp
    go_enter Tryz.func17, Tryz.ntmps17
    go_upto_region 1 with fail
    obtain ⟨w1, g, e1, e2, hBL, c0, c1, c2, c3, c4, hROW⟩ := boxD w k n s (.slice A x c) (.slice A' y c')
    rw [e1, e2]
    have HBL := hide hBL; have HROW := hide hROW
    clear e1 e2 hBL hROW
    go_wp2_with fail
    clear c0 c1 c2 c3 c4
    go_loopw [5, 6] (fun nv iv wr => ∃ (i : Nat) (N : Int), iv = .int .i64 i ∧ nv = .int .i64 N ∧ i ≤ x ∧ 1 ≤ N ∧ N ≤ most + 1 ∧ Hid (res = loopS (sizeF m) most (IS.drop i ++ MS.map Prod.snd) N) ∧ Hid (Below w1.heap.size w1 wr)) (fun _ iv _ => x - (intOf iv).toNat)
    case atStart => exact ⟨0, 1, rfl, rfl, Nat.zero_le _, by omega, by omega, HRES, hide (Below.refl _ _)⟩
    case round =>
      clear HRES
      obtain ⟨i, N, rfl, rfl, hi, hN1, hN2, hI, hB⟩ := hrel
      obtain ⟨c0, c1, c2, c3, c4⟩ := row5 (HROW.out.below hB.out)
      by_cases hlt : i < x ∧ N ≤ most
      · obtain ⟨hlt, hNm⟩ := hlt
        have hlt' : i < IS.length := by rw [← HX.out]; exact hlt
        obtain ⟨ad, rfl, hb, a, q, a', q', hfive, hpts⟩ := HI.out i _ (List.getElem?_eq_getElem hlt')
        have hq := hI.out
        rw [drop_at hlt', List.cons_append, loopS, if_pos hNm] at hq
        obtain ⟨X, hX⟩ : ∃ X, X = IS[i] := ⟨_, rfl⟩
        rw [← hX] at hfive hpts hq
        have hbb : (ad.add (i * 5)).block < w.heap.size := by rw [block_of_add]; exact hb
        have hBB := HBL.out.trans (hB.out.mono HBL.out.size)
        obtain ⟨s0, s1, s2, s3, s4⟩ := hfive.same hbb (Same.of_below hBB)
        have HCK := hide (ih X a q a' q' (most - N) wr (by omega) (by omega) (hpts.turn (Same.of_below hBB) hBB.size))
        have hz1 := sizeF_le m X (most - N) (by omega)
        have HQ := Lib.hid hq
        clear hfive hpts hX hlt' hb hbb hI hq hBB
        unfold datV datCs at HCK
        obtain ⟨z, hz⟩ : ∃ z, z = sizeF m X (most - N) := ⟨_, rfl⟩
        rw [← hz] at HCK HQ hz1
        have g1 : decide (N ≤ most) = true := by simpa using hNm
        have w1' : IntKind.i64.wrap (most - N) = most - N := IntWalk.i64_in _ (by omega)
        have w2' : IntKind.i64.wrap (N + z) = N + z := IntWalk.i64_in _ (by omega)
        clear hz
        go_wp2_with fail
        refine (unhide HCK).mono ?_; rintro e w4 ⟨rfl, hB4⟩
        have HB4 := hide (hB.out.trans (hB4.mono hB.out.size))
        clear hB4 HCK s0 s1 s2 s3 s4 c0 c1 c2 c3 c4
        go_wp2_with fail
        go_roundw
        case rel => exact ⟨i + 1, N + z, by go_num, rfl, by omega, by omega, by omega, HQ, HB4⟩
        case measure => simp [intOf]; omega
      · have hst : res = loopS (sizeF m) most ((MS.drop 0).map Prod.snd) N := by
          rw [hI.out]
          by_cases h : i < x
          · have hNm : ¬ N ≤ most := fun h' => hlt ⟨h, h'⟩
            rw [loopS_append]
            congr 1
            have hlt' : i < IS.length := by rw [← HX.out]; exact h
            rw [drop_at hlt', loopS, if_neg hNm]
          · rw [List.drop_eq_nil_of_le (by rw [← HX.out]; omega)]; rfl
        have HZ := Lib.hid hst
        have g1 : (¬ i < x ∧ True) ∨ (i < x ∧ decide (N ≤ most) = false) := by
          by_cases h : i < x
          · exact .inr ⟨h, by simpa using fun h' => hlt ⟨h, h'⟩⟩
          · exact .inl ⟨h, trivial⟩
        have HB4 := hide (HBL.out.trans (hB.out.mono HBL.out.size))
        have HROW4 := hide (HROW.out.below hB.out)
        clear hst hI HROW HBL hB hlt
        obtain ⟨w4, rfl⟩ : ∃ w4, w4 = wr := ⟨_, rfl⟩
        rcases g1 with ⟨g1, g2⟩ | ⟨g1, g2⟩
        all_goals
          go_wp2_with fail
          clear c0 c1 c2 c3 c4
          go_loopw [5, 7] (fun nv iv wr => ∃ (i : Nat) (N : Int), iv = .int .i64 i ∧ nv = .int .i64 N ∧ i ≤ y ∧ 1 ≤ N ∧ N ≤ most + 1 ∧ Hid (res = loopS (sizeF m) most ((MS.drop i).map Prod.snd) N) ∧ Hid (Below w4.heap.size w4 wr)) (fun _ iv _ => y - (intOf iv).toNat)
          case atStart => exact ⟨0, N, rfl, rfl, Nat.zero_le _, hN1, hN2, HZ, hide (Below.refl _ _)⟩
          case round =>
            clear HZ
            obtain ⟨i, N, rfl, rfl, hi, hN1, hN2, hI, hB⟩ := hrel
            obtain ⟨c0, c1, c2, c3, c4⟩ := row5 (HROW4.out.below hB.out)
            by_cases hlt : i < y
            · have hlt' : i < MS.length := by rw [← HY.out]; exact hlt
              by_cases hNm : N ≤ most
              · obtain ⟨ad, rfl, hb, hlab, a, q, a', q', hfive, hpts⟩ := HM.out i _ (List.getElem?_eq_getElem hlt')
                have hq := hI.out
                rw [drop_at hlt', List.map_cons, loopS, if_pos hNm] at hq
                obtain ⟨X, hX⟩ : ∃ X, X = MS[i] := ⟨_, rfl⟩
                rw [← hX] at hfive hpts hq hlab
                have hbb : (ad.add (i * 6)).block < w.heap.size := by rw [block_of_add]; exact hb
                have hBB := HB4.out.trans (hB.out.mono HB4.out.size)
                obtain ⟨s0, s1, s2, s3, s4, s5⟩ := six_of ((hBB.cell (p := ad.add (i * 6)) hbb).trans hlab) (hfive.same (p := ⟨_, _, none⟩) hbb (Same.of_below hBB))
                have HCK := hide (ih X.2 a q a' q' (most - N) wr (by omega) (by omega) (hpts.turn (Same.of_below hBB) hBB.size))
                have hz1 := sizeF_le m X.2 (most - N) (by omega)
                have HQ := Lib.hid hq
                clear hfive hpts hX hlt' hb hbb hI hq hBB hlab
                unfold datV datCs at HCK
                obtain ⟨z, hz⟩ : ∃ z, z = sizeF m X.2 (most - N) := ⟨_, rfl⟩
                rw [← hz] at HCK HQ hz1
                have g3 : decide (N ≤ most) = true := by simpa using hNm
                have w1' : IntKind.i64.wrap (most - N) = most - N := IntWalk.i64_in _ (by omega)
                have w2' : IntKind.i64.wrap (N + z) = N + z := IntWalk.i64_in _ (by omega)
                clear hz
                go_wp2_with fail
                refine (unhide HCK).mono ?_; rintro e w5 ⟨rfl, hB5⟩
                have HB5 := hide (hB.out.trans (hB5.mono hB.out.size))
                clear hB5 HCK s0 s1 s2 s3 s4 s5 c0 c1 c2 c3 c4
                go_wp2_with fail
                go_roundw
                case rel => exact ⟨i + 1, N + z, by go_num, rfl, by omega, by omega, by omega, HQ, HB5⟩
                case measure => simp [intOf]; omega
              · have hst : res = N := by rw [hI.out, drop_at hlt', List.map_cons, loopS, if_neg hNm]
                have HST := Lib.hid hst
                have g3 : decide (N ≤ most) = false := by simpa using hNm
                clear hst hI hNm hlt'
                go_wp2_with fail
                go_ret
                exact ⟨ret_int HST.out.symm, HB4.out.trans (hB.out.mono HB4.out.size)⟩
            · have hst : res = N := by rw [hI.out, List.drop_eq_nil_of_le (by rw [← HY.out]; omega)]; rfl
              have HST := Lib.hid hst
              clear hst hI
              go_wp2_with fail
              go_ret
              exact ⟨ret_int HST.out.symm, HB4.out.trans (hB.out.mono HB4.out.size)⟩
end Go.Proofs.YtmmbbndoimleaaaGreatDoor
