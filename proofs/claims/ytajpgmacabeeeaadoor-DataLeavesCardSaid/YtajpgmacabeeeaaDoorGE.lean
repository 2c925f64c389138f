/- strconv.FormatUint at base 10; Text of package fixed; Package quote: letter, escape; The iterator of package quote: pieces; Quote of package quote. -/
import Derived.Test.YtajpgmacabeeeaaDoorGB
import Derived.Test.YtajpgmacabeeeaaDoorLib
import Derived.Lib.AppendIntMem
import Derived.RangeFuncNested
import Derived.RangeFuncBound
import Derived.RangeFuncCalls
import Derived.RangeFuncLeaves
import Derived.RangeFuncBox
import Derived.RangeFuncFrom
import Derived.OwnWalkIn
import Derived.TacticsInMore
import Derived.LoopNIn
import Derived.LoopIn
import Derived.Lib.AppendStr

/- strconv.FormatUint at base 10. -/
namespace Go.Proofs.YtajpgmacabeeeaaDoor
open Go.RowKit

/-- The table of powers of ten lies as start-up laid it. -/
def Tab (w : World) : Prop := Lib.TabIs Tryd.prog w "internal/strconv.uint64pow10" .u64 Lib.pow10Tab
def decB (u : Nat) : ByteArray := ⟨(Lib.decDigits u).toArray⟩

theorem small_run (i : Nat) (h : i < 100) (w : World) : Calls Tryd.prog 111 #[.int .i64 i] w fun e w' => e = .returned (.string (decB i)) ∧ w' = w :=
  Any.internal_strconv_small smallL i h w
theorem numDigits_run (u : Nat) (h1 : 1 ≤ u) (h2 : u < 18446744073709551616) (w : World) (ht : Tab w) :
    Calls Tryd.prog 112 #[.int .u64 u] w fun e w' => e = .returned (.int .i64 (Lib.nDigits u)) ∧ w' = w :=
  Any.internal_strconv_numDigits digitsL u h1 h2 w ht

set_option maxRecDepth 20000 in
set_option maxHeartbeats 2000000 in
theorem fmtUint_run (u : Nat) (hu : u < 1000000000000000000) (w : World) (ht : Tab w) :
    Calls Tryd.prog 100 #[.int .u64 u, .int .i64 10] w fun e w' => e = .returned (.string (decB u)) ∧ Below w.heap.size w w' := by
  by_cases hs : u < 100
  · have HS := hide fun w => small_run u hs w
    have g1 : decide ((u : Int) < 100) = true := by simp; omega
    clear ht
    go_enter Tryd.func100, Tryd.ntmps100
    go_wp2_with fail
    refine (HS.out _).mono ?_; rintro e w' ⟨rfl, rfl⟩
    go_wp2_with fail
    go_ret
    exact ⟨rfl, Below.refl _ _⟩
  · have hu1 : 1 ≤ u := by omega
    have hu64 : u < 18446744073709551616 := by omega
    have hnd20 : Lib.nDigits u ≤ 20 := by have := Lib.numDigits_eq u hu1 hu64; split at this <;> omega
    have g1 : decide ((u : Int) < 100) = false := by simp; omega
    have hH0 := Lib.holds_zero0 w 111 (Lib.nDigits u) (by omega)
    have HFM := hide fun W (h : W = w.alloc (.cells Lib.zeros24 111)) => show Calls Tryd.prog 113 #[.slice (some ⟨w.heap.size, 0, none⟩) (Lib.nDigits u) 24, .int .u64 u] W fun e w' =>
        e = .returned (.tuple #[]) ∧ ∃ (n v' : Nat) (dk : Array UInt8), w' = (Sort.putRow (fun (b : UInt8) => Value.int .u8 (b.toNat : Int)) W w.heap.size 0 dk).drewN n ∧ Lib.FmtInv (Lib.nDigits u) u 0 v' dk from by
      subst h
      have := Any.internal_strconv_formatBase10 base10L w.heap.size 0 24 u (Array.replicate (Lib.nDigits u) 0) (w.alloc (.cells Lib.zeros24 111)) hH0 (by rw [Array.size_replicate]; exact Lib.lt_pow_nDigits u) hu64 (by rw [Array.size_replicate]; omega)
      rw [Array.size_replicate] at this
      exact this
    have HND := hide fun w' (h : Tab w') => numDigits_run u hu1 hu64 w' h
    have HT := hide (Lib.tabIs_alloc ht (.cells Lib.zeros24 111))
    obtain ⟨nd, hnd⟩ : ∃ nd, nd = Lib.nDigits u := ⟨_, rfl⟩
    rw [← hnd] at HFM hnd20 hH0
    rw [← hnd] at HND
    have HN := Lib.hid hnd; have HH0 := Lib.hid hH0
    clear hH0 hnd ht
    go_enter Tryd.func100, Tryd.ntmps100
    go_wp2_with fail
    refine (HND.out _ HT.out).mono ?_; rintro e w1 ⟨rfl, rfl⟩
    have hal : Tryd.prog.arrayLen 111 = 24 := by simp [Program.arrayLen, Tryd.underlying111]
    have hsl : ∀ W, (Instr.sliceAt 111 (.pointer (some ⟨w.heap.size, 0, none⟩)) none (some (.int .i64 (nd : Int))) none).run Tryd.prog W = .ok (.slice (some ⟨w.heap.size, 0, none⟩) nd 24) W := fun W => by
      rw [run_sliceAt_array_h W 111 ⟨w.heap.size, 0, none⟩ (by simp [Program.arrayLen, Program.elem, Tryd.underlying111]) .i64 (nd : Int) (by omega) (by rw [hal]; omega)]
      go_simp
    clear hal
    go_wp2_with fail
    refine (HFM.out _ rfl).mono ?_
    rintro e w2 ⟨rfl, k, v', dk, hw2, hF⟩
    have hcv : (convert 87 9 (.slice (some ⟨w.heap.size, 0, none⟩) nd 24)).run Tryd.prog w2 = .ok (.string (decB u)) w2 := by
      have h := run_convert_bytes_back (P := Tryd.prog) w2 87 9 5 ⟨w.heap.size, 0, none⟩ 24 (Lib.decDigits u) Tryd.underlying87 Tryd.underlying5 Tryd.underlying9 (fun j hj => by
        have hF' := hF
        rw [HN.out] at hF'
        rw [Lib.row_is_numeral hF' j hj, Lib.add_plain, hw2, World.cell?_drewN]
        exact Sort.cell?_putRow (fun (b : UInt8) => Value.int .u8 (b.toNat : Int)) _ w.heap.size 0 _ dk HH0.out (by rw [hF.size, Array.size_replicate]) j (by rw [hF.size, HN.out]; rw [Lib.decDigits_length] at hj; exact hj))
      rw [Lib.decDigits_length, ← HN.out] at h
      exact h
    have HBL := hide (show Below w.heap.size w w2 from by
      obtain ⟨os, eo⟩ := Lib.fin_at w (.cells Lib.zeros24 111) dk k 0
      rw [hw2]
      exact eo ▸ Lib.below_grow w.heap.size w (Nat.le_refl _) k os)
    clear hw2 hF HFM HND
    go_wp2_with fail
    go_ret
    exact ⟨rfl, HBL.out⟩

theorem FormatUint_run (u : Nat) (hu : u < 1000000000000000000) (w : World) (ht : Tab w) :
    Calls Tryd.prog 89 #[.int .u64 u, .int .i64 10] w fun e w' => e = .returned (.string (decB u)) ∧ Below w.heap.size w w' := by
  have HF := hide (fmtUint_run u hu w ht)
  clear ht
  go_enter Tryd.func89, Tryd.ntmps89
  go_wp2_with fail
  refine (unhide HF).mono ?_; rintro e w' ⟨rfl, hB⟩
  go_wp2_with fail
  go_ret
  exact ⟨rfl, hB⟩
end Go.Proofs.YtajpgmacabeeeaaDoor

/- Text of package fixed. -/
namespace Go.Proofs.YtajpgmacabeeeaaDoor
open Go.RowKit

theorem size_u_run (u : Int) (h : validB u = true) (w : World) : Calls Tryd.prog 88 #[.int .i64 u] w fun e w' => e = .returned (.int .u64 (u.natAbs : Int)) ∧ w' = w := by
  have hv : -1000000000000000 ≤ u ∧ u ≤ 1000000000000000 := by
    unfold validB at h; simpa using h
  obtain ⟨h1, h2⟩ := hv
  by_cases hn : u < 0
  · have w1 : IntKind.i64.wrap (-u) = -u := IntWalk.i64_in _ (by omega)
    have w2 : IntKind.u64.wrap (-u) = -u := by rw [IntKind.wrap_u64]; omega
    have e1 : -u = (u.natAbs : Int) := by omega
    have HE := Lib.hid e1
    clear h e1
    go_enter Tryd.func88, Tryd.ntmps88
    go_wp2_with fail
    go_ret
    exact ⟨by rw [← HE.out]; rfl, rfl⟩
  · have w2 : IntKind.u64.wrap u = u := by rw [IntKind.wrap_u64]; omega
    have e1 : u = (u.natAbs : Int) := by omega
    have HE := Lib.hid e1
    clear h e1
    go_enter Tryd.func88, Tryd.ntmps88
    go_wp2_with fail
    go_ret
    exact ⟨by rw [← HE.out]; rfl, rfl⟩

/-- A text without the zeros at its end. -/
def trimF : Nat → ByteArray → ByteArray
  | 0, s => s
  | n + 1, s => if s.get! n = 48 then trimF n (s.extract 0 n) else s
def trimB (s : ByteArray) : ByteArray := trimF s.size s
def fracB (r : Nat) : ByteArray := trimB ((decB (r + 10000)).extract 1 (decB (r + 10000)).size)
def dotB (f : ByteArray) : ByteArray := if f.toList = [] then ByteArray.empty else ⟨#[46]⟩ ++ f
def signB (u : Int) (s : ByteArray) : ByteArray := if u < 0 then ⟨#[45]⟩ ++ s else s
/-- The text of a number. -/
def numB (u : Int) : ByteArray :=
  if validB u = false then ⟨#[63]⟩ else signB u (decB (u.natAbs / 10000)) ++ dotB (fracB (u.natAbs % 10000))

theorem tab_below {w w' : World} (h : Tab w) (hB : Below w.heap.size w w') : Tab w' := by
  unfold Tab Lib.TabIs World.var? at *
  cases hg : Tryd.prog.globalNamed "internal/strconv.uint64pow10" with
  | none => simp [hg] at h
  | some g =>
    simp only [hg, Option.bind_some] at h ⊢
    have hlt : g < w.heap.size := by
      rcases Nat.lt_or_ge g w.heap.size with h' | h'
      · exact h'
      · rw [Array.getElem?_eq_none h'] at h; simp at h
    rw [hB.block g hlt]
    exact h
def sizeOfV : Value → Nat
  | .string s => s.size
  | _ => 0
theorem get_eq (s : ByteArray) (i : Nat) (h : i < s.size) : s.get! i = s[i] := by
  show s.data[i]! = s.data[i]
  rw [getElem!_pos s.data i h]
theorem decB_size (u : Nat) : (decB u).size = Lib.nDigits u := by
  unfold decB; show (Lib.decDigits u).toArray.size = _; simp [Lib.decDigits_length]
theorem nDigits_small {u : Nat} (h : u < 100000000000000000000) : Lib.nDigits u ≤ 20 := by
  by_cases h0 : u = 0
  · subst h0; rw [Lib.nDigits_small (by omega)]; omega
  · have := Lib.numDigits_eq u (by omega)
    rcases Nat.lt_or_ge u 18446744073709551616 with h2 | h2
    · have := this h2; split at this <;> omega
    · have := Lib.nDigits_unique 19 u (by omega) (by omega); omega

set_option maxRecDepth 20000 in
set_option maxHeartbeats 2000000 in
theorem numText_run (u : Int) (w : World) (ht : Tab w) : Calls Tryd.prog 74 #[.int .i64 u] w fun e w' => e = .returned (.string (numB u)) ∧ Below w.heap.size w w' := by
  obtain ⟨res, hres⟩ : ∃ r, r = numB u := ⟨_, rfl⟩
  rw [← hres]
  unfold numB at hres
  have HV := hide fun w => valid_run u w
  cases hv : validB u with
  | false =>
    rw [hv] at HV hres
    have HZ := hide (show res = ⟨#[63]⟩ by rw [hres]; simp)
    clear hres ht
    go_enter Tryd.func74, Tryd.ntmps74
    go_wp2_with fail
    refine (HV.out _).mono ?_; rintro e w' ⟨rfl, rfl⟩
    go_wp2_with fail
    go_ret
    exact ⟨ret_str HZ.out.symm, Below.refl _ _⟩
  | true =>
    have HSZ := hide fun w => size_u_run u hv w
    have hb : u.natAbs ≤ 1000000000000000 := by unfold validB at hv; simp at hv; omega
    rw [hv] at HV hres
    obtain ⟨n, hn⟩ : ∃ n, n = u.natAbs := ⟨_, rfl⟩
    rw [← hn] at HSZ hb hres
    have hq1 : n / 10000 < 1000000000000000000 := by omega
    have hq2 : n % 10000 + 10000 < 1000000000000000000 := by omega
    have HF1 := hide fun w' (h : Tab w') => FormatUint_run (n / 10000) hq1 w' h
    have HF2 := hide fun w' (h : Tab w') => FormatUint_run (n % 10000 + 10000) hq2 w' h
    have e1 : (n : Int) / 10000 = ((n / 10000 : Nat) : Int) := by omega
    have e2 : (n : Int) % 10000 = ((n % 10000 : Nat) : Int) := by omega
    have e3 : IntKind.u64.wrap (((n % 10000 : Nat) : Int) + 10000) = ((n % 10000 + 10000 : Nat) : Int) := by rw [IntKind.wrap_u64]; omega
    have w4 : IntKind.u64.wrap ((n / 10000 : Nat) : Int) = ((n / 10000 : Nat) : Int) := by rw [IntKind.wrap_u64]; omega
    have w5 : IntKind.u64.wrap ((n % 10000 : Nat) : Int) = ((n % 10000 : Nat) : Int) := by rw [IntKind.wrap_u64]; omega
    have HT := hide ht
    obtain ⟨D, hD⟩ : ∃ D, D = decB (n / 10000) := ⟨_, rfl⟩
    obtain ⟨F, hF⟩ : ∃ D, D = decB (n % 10000 + 10000) := ⟨_, rfl⟩
    have hDs : D.size ≤ 20 := by rw [hD, decB_size]; exact nDigits_small (by omega)
    have hFs : F.size = 5 := by rw [hF, decB_size]; exact Lib.nDigits_unique 4 _ (by omega) (by omega)
    rw [← hD] at HF1
    rw [← hF] at HF2
    unfold fracB at hres
    rw [← hD, ← hF] at hres
    have HRES := Lib.hid hres
    obtain ⟨q, hq⟩ : ∃ q, q = n / 10000 := ⟨_, rfl⟩
    obtain ⟨r, hr⟩ : ∃ q, q = n % 10000 := ⟨_, rfl⟩
    rw [← hq] at e1 HF1 w4
    rw [← hr] at e2 e3 HF2 w5
    clear hres ht hv hn hb hD hF hq hr hq1 hq2
    go_enter Tryd.func74, Tryd.ntmps74
    go_wp2_with fail
    refine (HV.out _).mono ?_; rintro e w' ⟨rfl, rfl⟩
    go_wp2_with fail
    refine (HSZ.out _).mono ?_; rintro e w' ⟨rfl, rfl⟩
    go_wp2_with fail
    refine (HF1.out _ HT.out).mono ?_; rintro e w2 ⟨rfl, hB2⟩
    have HB2 := hide hB2
    have HT2 := hide (show Tab w2 from tab_below HT.out hB2)
    clear hB2 HF1 HT
    obtain ⟨G, hG⟩ : ∃ G, G = signB u D := ⟨_, rfl⟩
    have hGs : G.size ≤ 21 := by
      rw [hG]; unfold signB; split
      · rw [ByteArray.size_append]; show 1 + D.size ≤ 21; omega
      · omega
    have hGG : (u < 0 ∧ (⟨#[45]⟩ : ByteArray) ++ D = G) ∨ (¬ u < 0 ∧ D = G) := by
      by_cases h : u < 0
      · exact .inl ⟨h, by rw [hG, signB, if_pos h]⟩
      · exact .inr ⟨h, by rw [hG, signB, if_neg h]⟩
    have HR2 := hide (show res = G ++ dotB (trimB (F.extract 1 F.size)) by rw [HRES.out, if_neg (by simp), hG])
    clear hG HRES
    obtain ⟨R, hR⟩ : ∃ R, R = F.extract 1 5 := ⟨_, rfl⟩
    have hRs : R.size = 4 := by rw [hR, ByteArray.size_extract]; omega
    rw [hFs, ← hR] at HR2
    have HRR := Lib.hid hR
    rcases hGG with ⟨hu, hGG⟩ | ⟨hu, hGG⟩
    all_goals
      have HGG := Lib.hid hGG
      clear hGG
      go_wp2_with fail
      refine (HF2.out _ HT2.out).mono ?_; rintro e w3 ⟨rfl, hB3⟩
      have HB3 := hide (HB2.out.trans (hB3.mono HB2.out.size))
      clear hB3 HF2 HT2 HB2 hR
      go_wp2_with fail
      go_loopw [5] (fun tv wr => ∃ (k : Nat) (T : ByteArray), tv = .string T ∧ T.size = k ∧ k ≤ 4 ∧ Hid (trimB R = trimF k T) ∧ wr = w3) (fun tv _ => sizeOfV tv)
      case atStart => exact ⟨4, R, by rw [HRR.out], hRs, by omega, hide (by rw [trimB, hRs]), rfl⟩
      case round =>
        obtain ⟨k, T, rfl, hTs, hk, hI, rfl⟩ := hrel
        cases k with
        | zero =>
          have hTn : T.toList = [] := by
            rw [Lib.toList_data]
            exact List.eq_nil_of_length_eq_zero (by rw [Array.length_toList]; exact hTs)
          have hT0 : (T.toList == []) = true := by rw [hTn]; rfl
          have hTe : T = ByteArray.empty := ByteArray.ext (by rw [Lib.toList_data] at hTn; rw [← Array.toList_inj, hTn]; rfl)
          have HZ := hide (show res = G by
            rw [HR2.out, hI.out, trimF, dotB, if_pos hTn]
            exact ByteArray.append_empty)
          have HTT := Lib.hid hTe
          clear hTn hTe hI
          go_wp2_with fail
          go_ret
          exact ⟨by first | (rw [HZ.out, ← HGG.out]; done) | (rw [HZ.out, ← HGG.out]; rfl), HB3.out⟩
        | succ n =>
          have hn : n < T.size := by omega
          have hq := hI.out
          rw [trimF, get_eq T n hn] at hq
          by_cases h48 : T[n] = 48
          · rw [if_pos h48] at hq
            have g8 : ((T[n].toNat : Int) == 48) = true := by rw [h48]; rfl
            have HQ := Lib.hid hq
            have hT2 : (T.extract 0 n).size = n := by rw [ByteArray.size_extract]; omega
            have HT2 := Lib.hid hT2
            clear hq h48 hI hT2
            go_wp2_with fail
            go_roundw
            case rel => exact ⟨n, T.extract 0 n, rfl, HT2.out, by omega, HQ, by first | rfl | trivial⟩
            case measure => simp [sizeOfV]; omega
          · rw [if_neg h48] at hq
            have g8 : ((T[n].toNat : Int) == 48) = false := by
              have : T[n].toNat ≠ 48 := fun h => h48 (UInt8.toNat_inj.1 (by rw [h]; rfl))
              simp; omega
            have hne : T.toList ≠ [] := fun h => by
              rw [Lib.toList_data] at h
              have h2 : T.data.toList.length = T.size := by rw [Array.length_toList]; rfl
              rw [h] at h2; simp at h2; omega
            have g9 : (T.toList == []) = false := by simpa using hne
            have HZ := hide (show res = G ++ (⟨#[46]⟩ ++ T) by rw [HR2.out, hq, dotB, if_neg hne])
            clear hq h48 hne hI
            go_wp2_with fail
            go_ret
            exact ⟨by first | (rw [HZ.out, ← HGG.out]; done) | (rw [HZ.out, ← HGG.out]; rfl), HB3.out⟩
end Go.Proofs.YtajpgmacabeeeaaDoor

/- Package quote: letter, escape. -/
namespace Go.Proofs.YtajpgmacabeeeaaDoor
open Go.RowKit

def letterN (b : Nat) : Bool := (decide (97 ≤ b) && decide (b ≤ 122)) || (decide (65 ≤ b) && decide (b ≤ 90))
theorem letter_run (b : Nat) (w : World) : Calls Tryd.prog 99 #[.int .u8 b] w fun e w' => e = .returned (.bool (letterN b)) ∧ w' = w := by
  go_enter Tryd.func99, Tryd.ntmps99
  go_wp2_with fail
  all_goals
    go_ret
    refine ⟨ret_bool ?_, rfl⟩
    unfold letterN
    first
      | (rw [Bool.eq_iff_iff]; simp; omega)
      | (simp; omega)

def hexN (b : Nat) : UInt8 := UInt8.ofNat (if b < 10 then 48 + b else 87 + b)
/-- What stands for a byte in a literal. -/
def escN (b : Nat) : ByteArray :=
  if b = 34 ∨ b = 92 then ⟨#[92, UInt8.ofNat b]⟩
  else if b = 10 then ⟨#[92, 110]⟩ else if b = 9 then ⟨#[92, 116]⟩ else if b = 13 then ⟨#[92, 114]⟩
  else if b < 32 ∨ 126 < b then ⟨#[92, 120, hexN (b / 16), hexN (b % 16)]⟩ else ⟨#[UInt8.ofNat b]⟩

theorem and15 (b : Nat) (hb : b < 256) : bits BinOp.and IntKind.u8 (b : Int) 15 = ((b % 16 : Nat) : Int) := by
  have : ∀ b : Fin 256, bits BinOp.and IntKind.u8 ((b : Nat) : Int) 15 = (((b : Nat) % 16 : Nat) : Int) := by decide +kernel
  exact this ⟨b, hb⟩
theorem enc_ascii (b : Nat) (hb : b < 128) : Utf8.encode (b : Int) = ⟨#[UInt8.ofNat b]⟩ := by
  have : ∀ b : Fin 128, (Utf8.encode ((b : Nat) : Int)).data = #[UInt8.ofNat b] := by decide +kernel
  exact ByteArray.ext (this ⟨b, hb⟩)
theorem hex_slice (h : Nat) (hh : h < 16) (W : World) :
    (Instr.sliceAt 9 (.string ⟨#[48, 49, 50, 51, 52, 53, 54, 55, 56, 57, 97, 98, 99, 100, 101, 102]⟩) (some (.int .u8 (h : Int))) (some (.int .u8 ((h : Int) + 1))) none).run Tryd.prog W = .ok (.string ⟨#[hexN h]⟩) W := by
  have : ∀ h : Fin 16, (Instr.sliceAt 9 (.string ⟨#[48, 49, 50, 51, 52, 53, 54, 55, 56, 57, 97, 98, 99, 100, 101, 102]⟩) (some (.int .u8 ((h : Nat) : Int))) (some (.int .u8 (((h : Nat) : Int) + 1))) none).run Tryd.prog W = .ok (.string ⟨#[hexN h]⟩) W := by
    intro h
    obtain ⟨h, hh⟩ := h
    match h, hh with
    | 0, _ => go_simp; rfl
    | 1, _ => go_simp; rfl
    | 2, _ => go_simp; rfl
    | 3, _ => go_simp; rfl
    | 4, _ => go_simp; rfl
    | 5, _ => go_simp; rfl
    | 6, _ => go_simp; rfl
    | 7, _ => go_simp; rfl
    | 8, _ => go_simp; rfl
    | 9, _ => go_simp; rfl
    | 10, _ => go_simp; rfl
    | 11, _ => go_simp; rfl
    | 12, _ => go_simp; rfl
    | 13, _ => go_simp; rfl
    | 14, _ => go_simp; rfl
    | 15, _ => go_simp; rfl
    | n + 16, h => omega
  exact this ⟨h, hh⟩

set_option maxRecDepth 20000 in
set_option maxHeartbeats 1000000 in
theorem escape_run (b : Nat) (hb : b < 256) (w : World) : Calls Tryd.prog 102 #[.int .u8 b] w fun e w' => e = .returned (.string (escN b)) ∧ ∃ m, w' = w.drewN m := by
  go_enter Tryd.func102, Tryd.ntmps102
  by_cases h1 : b = 34 ∨ b = 92
  · rcases h1 with rfl | rfl
    · go_wp2_with fail
      go_ret
      exact ⟨ret_str (by decide), 0, rfl⟩
    · go_wp2_with fail
      go_ret
      exact ⟨ret_str (by decide), 0, rfl⟩
  · by_cases h2 : b < 32 ∨ 126 < b
    · by_cases h3 : b = 10
      · subst h3
        go_wp2_with fail
        go_ret
        exact ⟨rfl, 0, rfl⟩
      · by_cases h4 : b = 9
        · subst h4
          go_wp2_with fail
          go_ret
          exact ⟨rfl, 0, rfl⟩
        · by_cases h5 : b = 13
          · subst h5
            go_wp2_with fail
            go_ret
            exact ⟨rfl, 0, rfl⟩
          · have g1 : ((b : Int) == 34) = false := by simp; omega
            have g2 : ((b : Int) == 92) = false := by simp; omega
            have g3 : ((b : Int) == 10) = false := by simp; omega
            have g4 : ((b : Int) == 9) = false := by simp; omega
            have g5 : ((b : Int) == 13) = false := by simp; omega
            have he : escN b = ⟨#[92, 120, hexN (b / 16), hexN (b % 16)]⟩ := by
              unfold escN; rw [if_neg h1, if_neg h3, if_neg h4, if_neg h5, if_pos h2]
            have hg : (decide ((b : Int) < 32) = true ∧ True) ∨ (decide ((b : Int) < 32) = false ∧ decide ((b : Int) > 126) = true) := by
              rcases h2 with h | h
              · exact .inl ⟨by simp; omega, trivial⟩
              · exact .inr ⟨by simp; omega, by simp; omega⟩
            obtain ⟨hi, hhi⟩ : ∃ hi, hi = b / 16 := ⟨_, rfl⟩
            obtain ⟨lo, hlo⟩ : ∃ hi, hi = b % 16 := ⟨_, rfl⟩
            have e1 : (b : Int) / 16 = (hi : Int) := by omega
            have e2 : bits BinOp.and IntKind.u8 (b : Int) 15 = (lo : Int) := by rw [and15 b hb, hlo]
            have e3 : IntKind.u8.wrap ((hi : Int) + 1) = (hi : Int) + 1 := by rw [IntKind.wrap_u8]; omega
            have e4 : IntKind.u8.wrap ((lo : Int) + 1) = (lo : Int) + 1 := by rw [IntKind.wrap_u8]; omega
            have l1 : hi < 16 := by omega
            have l2 : lo < 16 := by omega
            rw [← hhi, ← hlo] at he
            have HE := Lib.hid he
            clear he h1 h2 h3 h4 h5 hhi hlo
            rcases hg with ⟨g6, g7⟩ | ⟨g6, g7⟩
            all_goals
              have hs1 := fun W => hex_slice hi l1 W
              have hs2 := fun W => hex_slice lo l2 W
              go_wp2_with fail
              go_quiet (fail)
              go_wp2_with fail
              go_ret
              exact ⟨ret_str (by rw [HE.out]; exact ByteArray.ext rfl), nq, rfl⟩
    · have he : escN b = ⟨#[UInt8.ofNat b]⟩ := by
        unfold escN; rw [if_neg h1, if_neg (by omega), if_neg (by omega), if_neg (by omega), if_neg h2]
      have HE := Lib.hid he
      have g1 : ((b : Int) == 34) = false := by simp; omega
      have g2 : ((b : Int) == 92) = false := by simp; omega
      have g3 : ((b : Int) == 10) = false := by simp; omega
      have g4 : ((b : Int) == 9) = false := by simp; omega
      have g5 : ((b : Int) == 13) = false := by simp; omega
      have g6 : decide ((b : Int) < 32) = false := by simp; omega
      have g7 : decide ((b : Int) > 126) = false := by simp; omega
      have en := enc_ascii b (by omega)
      clear he
      go_wp2_with fail
      go_ret
      exact ⟨ret_str (by rw [HE.out]), 0, rfl⟩
end Go.Proofs.YtajpgmacabeeeaaDoor

/- The iterator of package quote: pieces. -/
namespace Go.Proofs.YtajpgmacabeeeaaDoor
open Go.RowKit

attribute [local go_sem] Oper.semAt_some

/-- A piece is short. -/
abbrev Pz := { x : ByteArray // x.size ≤ 4 }
theorem escN_size (b : Nat) : (escN b).size ≤ 4 := by
  unfold escN
  split
  · show 2 ≤ 4; omega
  · split
    · show 2 ≤ 4; omega
    · split
      · show 2 ≤ 4; omega
      · split
        · show 2 ≤ 4; omega
        · split
          · show 4 ≤ 4; omega
          · show 1 ≤ 4; omega
def escZ (b : Nat) : Pz := ⟨escN b, escN_size b⟩
/-- What has come when k rounds are over. -/
def uptoL (f : Nat → Pz) (k : Nat) : List Pz := (List.range k).map f
theorem uptoL_succ (f : Nat → Pz) (k : Nat) : uptoL f (k + 1) = uptoL f k ++ [f k] := by simp [uptoL, List.range_succ]
theorem uptoL_length (f : Nat → Pz) (k : Nat) : (uptoL f k).length = k := by simp [uptoL]

/-- A block lies as it lay. -/
def KeepB (B : Nat) (W W' : World) : Prop := W'.heap[B]? = W.heap[B]?

set_option maxRecDepth 100000 in
set_option maxHeartbeats 2000000 in
theorem pieces1_in (n : Nat) (hn : 1 ≤ n) (l Bs : Nat) (S : ByteArray) (hS : S.size ≤ 1000000000) (J Jx : List Pz → World → Prop)
    (hY : ∀ pre x W, J pre W → pre.length < S.size → YieldAt Fence.wide (n - 1) Tryd.prog l #[.string x.1] W fun e W' =>
      (e = .returned (.bool true) ∧ J (pre ++ [x]) W' ∧ KeepB Bs W W') ∨ (e = .returned (.bool false) ∧ Jx (pre ++ [x]) W'))
    (W : World) (hJ : AbidesFrom W.heap.size J) (hBs : W.cell? ⟨Bs, 0, none⟩ = some (.string S)) (h0 : J [] W) :
    CallsIn Fence.wide n Tryd.prog 101 #[.func (.yield l) #[] #[], .pointer (some ⟨Bs, 0, none⟩)] W fun e W' => (∃ v, e = .returned v) ∧
      ((∃ ys, ys = uptoL (fun j => escZ (S.get! j).toNat) S.size ∧ J ys W') ∨ (∃ pre : List Pz, True ∧ Jx pre W')) := by
  refine callsIn_of_wp Tryd.func101 rfl trivial ?_ rfl
  simp only [Tryd.ntmps101, List.size_toArray, List.length_cons, List.length_nil, Nat.reduceAdd, Nat.reduceSub, Array.replicate_succ, Array.replicate_zero, List.push_toArray, List.append_toArray, List.nil_append, List.cons_append]
  gi_wp2
  gi_loopw [3, 6] (fun _ i wr => ∃ k : Nat, k ≤ S.size ∧ i = .int .i64 k ∧ J (uptoL (fun j => escZ (S.get! j).toNat) k) wr ∧ KeepB Bs W wr) (fun _ i _ => S.size - (intOf i).toNat)
  case atStart => exact ⟨0, Nat.zero_le _, rfl, h0, rfl⟩
  case round =>
    obtain ⟨k, hk, rfl, hJs, hnx⟩ := hrel
    have hc := (World.cell?_of_block (a := ⟨Bs, 0, none⟩) (show wr.heap[Bs]? = W.heap[Bs]? from hnx)).trans hBs
    by_cases hlt : k < S.size
    · have hgk : (S.get! k).toNat = S[k].toNat := by rw [get_eq S k hlt]
      have hlb : S[k].toNat < 256 := UInt8.toNat_lt _
      obtain ⟨b, hbb⟩ : ∃ b, b = S[k].toNat := ⟨_, rfl⟩
      have hb2 : (S[k].toNat : Int) = (b : Int) := by rw [hbb]
      rw [← hbb] at hlb hgk
      have HESC := hide fun w => escape_run b hlb w
      have HGK := Lib.hid hgk
      have hJd : ∀ q, J (uptoL (fun j => escZ (S.get! j).toNat) k) (wr.drewN q) := fun q => hJ _ wr _ none hJs ⟨rfl, rfl, rfl, Nat.le_refl _, fun _ _ _ => rfl⟩ (fun r e => by cases e)
      have HJD := hide hJd
      have HY := hide hY
      clear hbb hgk hJd hY
      gi_wp2_with fail
      refine ⟨trivial, (callsIn_wide.2 (HESC.out _)).mono ?_⟩
      rintro e w2 ⟨rfl, q, rfl⟩
      obtain ⟨fn, tmps, assign, body, hy, hR⟩ := HY.out _ (escZ b) (wr.drewN q) (HJD.out q) (by rw [uptoL_length]; exact hlt)
      dsimp only [escZ] at hy
      clear hc
      gi_wp2
      refine hR.mono ?_
      rintro e W3 (⟨rfl, hJ3, hk3⟩ | ⟨rfl, hJx3⟩)
      · have HN := hide (show KeepB Bs W W3 from (show W3.heap[Bs]? = wr.heap[Bs]? from hk3).trans hnx)
        have HJ3 := hide hJ3
        clear hJ3 hk3 hnx hJs hy hR
        gi_wp2
        go_roundw
        case rel => exact ⟨k + 1, by omega, by go_num, by rw [uptoL_succ, HGK.out]; exact HJ3.out, HN.out⟩
        case measure => simp [intOf]; omega
      · clear hy hR
        gi_wp2
        refine bodyPost_ret (results_none rfl _ _ _) rfl ?_
        exact ⟨⟨_, rfl⟩, .inr ⟨_, trivial, hJx3⟩⟩
    · obtain rfl : k = S.size := by omega
      gi_wp2
      go_end0
      exact ⟨⟨_, rfl⟩, .inl ⟨_, rfl, hJs⟩⟩
end Go.Proofs.YtajpgmacabeeeaaDoor

/- Quote of package quote. -/
namespace Go.Proofs.YtajpgmacabeeeaaDoor
open Go.RowKit

attribute [local go_sem] Oper.semAt_some

theorem wpListIn_append_str {F : Fence} {n : Nat} {P : Program} (w : World) {ops : Array Oper} {rest : List Oper} {o : Oper} {a : Act} {Q : Exit → Act → World → Prop}
    (hg : o.guard = none) (sl x : Operand) (t u : TypeId) (ho : o.op = .call { callee := .builtin .append, args := #[sl, x], argTypes := #[t, u] })
    (base : Nat) (e : TypeId) (i : TypeInfo) (ht : P.underlying t = some (.slice e)) (hu : P.underlying u = some .string) (hi : P.info? e = some i) (hz : i.zero = some (.int .u8 0))
    (hsize : i.size = 1) (hby : i.bytes = 1)
    (v : Value) (k : Nat) (xs : List Value) (hs : a.eval sl = v) (hown : w.ownsRow base e 1 v k xs) (s : ByteArray) (hx : a.eval x = .string s)
    (h63 : k + s.size ≤ maxLen) (hbytes : k + s.size ≤ 140737488355328) (hbase : base ≤ w.heap.size)
    (h : ∀ v' w', w'.ownsRow base e 1 v' (k + s.size) (xs ++ Lib.strCells s) → w.grownBy w' v.ownBlock → wpListIn F n P ops Q rest (a.put o.dst v') w') : wpListIn F n P ops Q (o :: rest) a w := by
  refine wpListIn_plain hg fun K hK => ?_
  obtain ⟨v', w', hr, h2, h3, _⟩ := Lib.run_append_own_string (P := P) w base t u o.type e i ht hu hi hz hsize hby v k xs hown s h63 hbytes hbase
  unfold Oper.wpIn
  refine ⟨?_, ?_⟩
  · simp [Oper.about, ho, resolve, Target.leads, Sem.run_pure]
  · rw [Oper.semAt_plain F _ _ (by rw [ho]; intro c hc'; cases hc')]
    simp [execOp, ho, resolve, invoke, builtin, hs, hx, hr, Result.andThen]
    exact hK _ _ (h v' w' h2 h3)

def bytesV (l : List UInt8) : List Value := l.map fun b => .int .u8 (b.toNat : Int)
/-- The bytes of a literal, without the quotes. -/
def escL (S : ByteArray) : List UInt8 := (uptoL (fun j => escZ (S.get! j).toNat) S.size).flatMap fun x => x.1.data.toList
def quoteB (S : ByteArray) : ByteArray := ⟨(34 :: escL S ++ [34]).toArray⟩
theorem infoU8 : (Tryd.prog.info? 5).map (fun i => (i.zero, i.size, i.bytes)) = some (some (.int .u8 0), 1, 1) := by kernel_rfl

def fB (pre : List Pz) : List UInt8 := 34 :: pre.flatMap fun x => x.1.data.toList
theorem fB_def (pre : List Pz) : fB pre = 34 :: pre.flatMap fun x => x.1.data.toList := rfl

theorem fB_len (pre : List Pz) : (fB pre).length ≤ 1 + 4 * pre.length := by
  rw [fB_def]
  show (pre.flatMap fun x => x.1.data.toList).length + 1 ≤ _
  have : ∀ l : List Pz, (l.flatMap fun x => x.1.data.toList).length ≤ 4 * l.length := by
    intro l
    induction l with
    | nil => simp
    | cons a l ih =>
      have ha : a.1.data.toList.length ≤ 4 := by rw [Array.length_toList]; exact a.2
      rw [List.flatMap_cons, List.length_append, List.length_cons]; omega
  have := this pre; omega
theorem bytesV_len (l : List UInt8) : (bytesV l).length = l.length := by unfold bytesV; simp
theorem conv_own {w1 : World} {B g cap : Nat} {l : List UInt8} {b : UInt8} (h : w1.ownsRow B 5 1 (.slice (some ⟨g, 0, none⟩) (l.length + 1) cap) (l.length + 1) (bytesV l ++ [.int .u8 (b.toNat : Int)])) :
    (convert 87 9 (.slice (some ⟨g, 0, none⟩) (l.length + 1) cap)).run Tryd.prog w1 = .ok (.string ⟨(l ++ [b]).toArray⟩) w1 := by
  have := run_convert_bytes_back (P := Tryd.prog) w1 87 9 5 ⟨g, 0, none⟩ cap (l ++ [b]) Tryd.underlying87 Tryd.underlying5 Tryd.underlying9 (fun j hj => by
    refine h.cells rfl j _ ?_
    have : bytesV l ++ [.int .u8 (b.toNat : Int)] = bytesV (l ++ [b]) := by unfold bytesV; simp
    rw [this]; unfold bytesV; rw [List.getElem?_map, List.getElem?_eq_getElem hj]; rfl)
  rw [List.length_append, List.length_singleton] at this
  exact this
theorem own_boxed {β : Type} (B : Nat) (t : TypeId) (u : Value) : Own (fun (_ : β) W => Boxed W B t u) := by
  rintro s X Y row h hg hrow
  refine h.kept hg (fun e' => ?_)
  obtain ⟨o, ho, hc⟩ := hrow B e'.symm
  rw [show X.heap[B]? = _ from h] at ho; cases ho; cases hc
theorem pieces_run (S : ByteArray) (w : World) : Calls Tryd.prog 90 #[.string S] w fun e w' => e = .returned (.func (.func 101) #[] #[.pointer (some ⟨w.heap.size, 0, none⟩)]) ∧ w' = w.alloc (.cells #[.string S] 9) := by
  go_enter Tryd.func90, Tryd.ntmps90
  go_wp2_with fail
  go_ret
  exact ⟨rfl, rfl⟩
theorem pieces_stops (n : Nat) (hn : 1 ≤ n) (Bs : Nat) (S : ByteArray) (hS : S.size ≤ 1000000000) (w : World) (hb : Bs < w.heap.size) (hBs : w.cell? ⟨Bs, 0, none⟩ = some (.string S)) :
    SeqStopsK Fence.wide n Tryd.prog 101 #[.pointer (some ⟨Bs, 0, none⟩)] (fun x : Pz => #[.string x.1]) (KeepB Bs) (fun xs => xs = uptoL (fun j => escZ (S.get! j).toNat) S.size) (fun _ => True) S.size w := fun l J Jx W hW hJ _ hY h0 =>
  pieces1_in n hn l Bs S hS J Jx hY W hJ ((hW.cell (p := ⟨Bs, 0, none⟩) hb).trans hBs) h0

set_option maxRecDepth 100000 in
set_option maxHeartbeats 2000000 in
theorem Quote_run (S : ByteArray) (hS : S.size ≤ 1000000000) (w : World) : Calls Tryd.prog 75 #[.string S] w fun e w' => e = .returned (.string (quoteB S)) ∧ Below w.heap.size w w' := by
  refine (callsIn_wide (n := 4)).1 ?_
  obtain ⟨i0, hi0, hz0, hz1, hz2⟩ := info_parts infoU8
  refine callsIn_of_wp_marks Tryd.func75 rfl trivial ?_ rfl
  simp only [Tryd.ntmps75, List.size_toArray, List.length_cons, List.length_nil, Nat.reduceAdd, Nat.reduceSub, Array.replicate_succ, Array.replicate_zero, List.push_toArray, List.append_toArray, List.nil_append, List.cons_append]
  gi_wp2
  refine ⟨trivial, (callsIn_wide.2 (pieces_run S _)).mono ?_⟩
  rintro e w1 ⟨rfl, rfl⟩
  gi_wp2
  obtain ⟨W3, hW3⟩ : ∃ W3, W3 = ((w.alloc (Obj.cells #[Value.int IntKind.u8 34] 5)).alloc (Obj.cells #[Value.slice (some { block := w.heap.size, off := 0 }) 1 1] 87)).alloc (Obj.cells #[Value.string S] 9) := ⟨_, rfl⟩
  have hsz : W3.heap.size = w.heap.size + 3 := by rw [hW3]; simp
  have hbox : Boxed W3 (w.heap.size + 1) 87 (.slice (some ⟨w.heap.size, 0, none⟩) 1 1) := by
    rw [hW3]
    have := (Boxed.new (w.alloc (Obj.cells #[Value.int IntKind.u8 34] 5)) 87 (Value.slice (some { block := w.heap.size, off := 0 }) 1 1)).alloc (Obj.cells #[Value.string S] 9)
    rwa [World.size_alloc] at this
  have hown : W3.ownsRow w.heap.size 5 1 (.slice (some ⟨w.heap.size, 0, none⟩) 1 1) 1 (bytesV [34]) := by
    rw [hW3]
    have h0 : (w.alloc (Obj.cells #[Value.int IntKind.u8 34] 5)).ownsRow w.heap.size 5 1 (.slice (some ⟨w.heap.size, 0, none⟩) 1 1) 1 (bytesV [34]) :=
      ⟨rfl, .inr ⟨w.heap.size, 1, #[Value.int .u8 34], rfl, Nat.le_refl _, heap_alloc_new w _, by omega, by simp [maxLen], rfl, rfl⟩⟩
    exact (h0.alloc _).alloc _
  have hBx : Boxed W3 (w.heap.size + 1 + 1) 9 (.string S) := by
    have := (Boxed.new ((w.alloc (Obj.cells #[Value.int IntKind.u8 34] 5)).alloc (Obj.cells #[Value.slice (some { block := w.heap.size, off := 0 }) 1 1] 87)) 9 (Value.string S))
    rw [World.size_alloc, World.size_alloc] at this
    rw [hW3]; exact this
  have hBs := hBx.cell
  have hB : Below w.heap.size w W3 := by rw [hW3]; exact below_al (below_al (below_al (Below.refl _ _) _) _) _
  rw [← hW3]
  clear hW3
  refine wpIn_rangeFunc_ownF rfl (by omega) (gf := 101) (lb := #[.pointer (some ⟨w.heap.size + 1 + 1, 0, none⟩)]) rfl trivial (enters_of Tryd.func101 (by kernel_rfl) rfl)
    (pieces_stops (4 - 1) (by omega) (w.heap.size + 1 + 1) S hS W3 (by omega) hBs) (fun h k => k.trans h)
    (fun W l o o' hl ho _ _ => World.putObj_heap_other (by omega)) (Below.refl _ _) (fun _ => rfl)
    (fun pre W => (∃ v, Boxed W (w.heap.size + 1) 87 v ∧ W.ownsRow w.heap.size 5 1 v (fB pre).length (bytesV (fB pre)) ∧ True) ∧ Boxed W (w.heap.size + 1 + 1) 9 (.string S) ∧ Below w.heap.size w W) (fun _ _ _ => False)
    (OwnFrom.and (Own.from (holdsRow_own w.heap.size (w.heap.size + 1) 87 5 1 (fun pre => (fB pre).length) (fun pre => bytesV (fB pre)) (fun _ _ => True)) _) (OwnFrom.and (Own.from (own_boxed (w.heap.size + 1 + 1) 9 (.string S)) _) (ownFrom_below (Nat.le_refl _) (by omega))))
    (fun _ _ _ _ _ hs _ _ => hs) ⟨⟨_, hbox, hown, trivial⟩, hBx, hB⟩
    (fun x => { tmps := #[Value.string S, undef, Value.string { data := #[] }, Value.pointer (some { block := w.heap.size + 1, off := 0 }), (.string x.1), Value.slice (some { block := w.heap.size, off := 0 }) 1 1, Value.string S,
          Value.func (Fn.func 101) #[] #[Value.pointer (some { block := w.heap.size + 1 + 1, off := 0 })], (.string x.1), undef, undef, undef, undef, undef, undef, undef], defers := [] }) ?assign ?body ?done ?stop
  case assign =>
    intro l x W K hK
    gi_wp2
    exact hK
  case body =>
    rintro l pre x W ⟨⟨v, hbx, how, _⟩, hSb, hBl⟩ hpre
    have hx := x.2
    have hc := hbx.cell
    have hf := hbx.frozen
    have hlen := fB_len pre
    have HOW := hide how; have HBX := hide hbx
    have hbs : w.heap.size ≤ W.heap.size := hBl.size
    gi_wp2_with (gi_at_builtin; refine wpListIn_append_str _ rfl (.tmp 9) (.tmp 10) _ _ rfl w.heap.size 5 i0 Tryd.underlying87 Tryd.underlying9 hi0 hz0 hz1 hz2 v (fB pre).length (bytesV (fB pre)) rfl HOW.out x.1 rfl (by unfold maxLen; omega) (by omega) hbs ?_)
    intro v' w1 hown1 hgrow
    have hlen2 : (fB (pre ++ [x])).length = (fB pre).length + x.1.size := by
      have hxs : x.1.data.size = x.1.size := rfl
      rw [fB_def, fB_def]; simp only [List.flatMap_append, List.flatMap_cons, List.flatMap_nil, List.append_nil, List.length_cons, List.length_append, Array.length_toList]
      omega
    have hbytes : bytesV (fB pre) ++ Lib.strCells x.1 = bytesV (fB (pre ++ [x])) := by
      rw [fB_def, fB_def]; unfold bytesV Lib.strCells
      simp only [List.flatMap_append, List.flatMap_cons, List.flatMap_nil, List.append_nil, List.map_cons, List.map_append, List.cons_append]
    rw [← hlen2, hbytes] at hown1
    have hpos : 0 < (fB (pre ++ [x])).length := by rw [fB_def]; simp
    obtain ⟨g', cap', rfl⟩ : ∃ g cap, v' = .slice (some ⟨g, 0, none⟩) (fB (pre ++ [x])).length cap := by
      rcases hown1.2 with ⟨_, h0⟩ | ⟨g, cap, cur, rfl, _⟩
      · omega
      · exact ⟨g, cap, rfl⟩
    have hne : some (w.heap.size + 1) ≠ v.ownBlock := hbx.not_row (by decide) how
    have hv1 : Boxed w1 (w.heap.size + 1) 87 v := hbx.kept hgrow hne
    have hc1 := hv1.cell
    have hf1 := hv1.frozen
    have HV1 := hide hv1; have HO1 := hide hown1
    have HK := hide (show KeepsOthers W w1 from KeepsOthers.of_grownBy hgrow fun j o ej hj => by
      rcases HOW.out.2 with ⟨rfl, _⟩ | ⟨g, cap, cur, rfl, _, hgb, _⟩
      · simp [Value.ownBlock] at ej
      · obtain rfl : g = j := by simpa [Value.ownBlock] using ej
        rw [hgb] at hj; cases hj; rfl)
    have HB1 := hide (hBl.grown hgrow hbs fun k e => (how.lt k e).1)
    have hneS : some (w.heap.size + 1 + 1) ≠ v.ownBlock := hSb.not_row (by decide) how
    have HS1 := hide (hSb.kept hgrow hneS)
    have HSb := hide hSb
    clear hown1 hgrow hbytes hlen2 hv1 hc hf how hbx hSb
    gi_wp2
    refine ⟨HK.out.trans (KeepsOthers.setCell _ _ _), ?_, ⟨_, HV1.out.set _, HO1.out.kept (grownBy_setCell' w1 _ _) (.inr (HV1.out.not_row (by decide) HO1.out).symm), trivial⟩, HS1.out.kept (grownBy_setCell' w1 _ _) (by simp), HB1.out.setCell (by show _ ≤ w.heap.size + 1; omega) _⟩
    have h2 := HS1.out.kept (grownBy_setCell' w1 (w.heap.size + 1) (Value.slice (some { block := g', off := 0 }) (fB (pre ++ [x])).length cap')) (by simp)
    exact h2.trans HSb.out.symm
  case done =>
    rintro D ys W hD rfl ⟨⟨v, hbx, how, _⟩, hSb, hBl⟩ hK
    have hc := hbx.cell
    have hf := hbx.frozen
    obtain ⟨ys, hys⟩ : ∃ ys, ys = uptoL (fun j => escZ (S.get! j).toNat) S.size := ⟨_, rfl⟩
    have hyl : ys.length ≤ S.size := by rw [hys]; simp [uptoL]
    have hlen := fB_len ys
    have hqB : quoteB S = ⟨(fB ys ++ [34]).toArray⟩ := by
      rw [fB_def, hys]; rfl
    have HQ := hide hqB
    rw [← hys] at how
    clear hqB hys
    have HOW := hide how; have HBX := hide hbx
    have hbs : w.heap.size ≤ W.heap.size := hBl.size
    have hne : some (w.heap.size + 1) ≠ v.ownBlock := hbx.not_row (by decide) how
    gi_wp2_with (gi_at_builtin; refine wpListIn_append_own _ rfl _ _ 87 rfl w.heap.size 5 i0 (.int .u8 0) 1 1 Tryd.underlying87 hi0 hz0 hz1 hz2 rfl (by decide) _ _ _ rfl (HOW.out.alloc _) ⟨W.heap.size, 0, none⟩ 1 1 [.int .u8 34] rfl rfl (cell_one_new _ _ _) (by simp [Value.oneCell']) (by unfold maxLen; omega) (by omega) (by simp; omega) ?_; intro v' w1 hown' hgrow _; obtain ⟨g', cap', rfl⟩ := ownsRow_succ hown'; have hcv := conv_own (b := 34) hown'; have HO := hide hown'; have HG := hide hgrow; clear hown' hgrow)
    have hD1 : w1.heap[D]? = some (Obj.deferred (some [])) := by
      refine (HG.out.block D (by have := (Array.getElem?_eq_some_iff.1 hK).1; simp; omega) ?_).trans ((World.grownBy_alloc W _ none).block D (Array.getElem?_eq_some_iff.1 hK).1 (by simp) |>.trans hK)
      intro e'
      change some D = v.ownBlock at e'
      rcases HOW.out.2 with ⟨rfl, _⟩ | ⟨g, cap, cur, rfl, _, hgb, _⟩
      · simp [Value.ownBlock] at e'
      · obtain rfl : D = g := by simpa [Value.ownBlock] using e'
        rw [hK] at hgb; cases hgb
    refine ⟨by simp, .inl ⟨_, _, rfl, run_takeDeferred hD1, ?_⟩⟩
    refine ⟨_, results_tmp rfl _ _ _, ?_, ?_⟩
    · rw [HQ.out]; rfl
    · exact ((hBl.alloc hbs _).grown HG.out (by simp; omega) (fun k e => (HOW.out.lt k e).1)).trans (belowK_b (w := w) (Nat.le_refl _) w1 D _ _ (by omega) hD1 rfl rfl)
  case stop =>
    rintro D c pre W _ _ h _
    exact h.elim
end Go.Proofs.YtajpgmacabeeeaaDoor
