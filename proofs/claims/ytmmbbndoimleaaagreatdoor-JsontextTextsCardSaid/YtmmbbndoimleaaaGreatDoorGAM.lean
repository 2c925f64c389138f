/- text and Text of the reference; The law of Text; Documents are equal exactly if the data is; their bytes; plain; short, quoted, line of package jsontext; quoted of package jsontext; The reference's reader in memory; fail, more, is, digit; blanks, word, digit, hex of the reference's reader; word, digit, hex of the reference's reader. -/
import Derived.Test.YtmmbbndoimleaaaGreatDoorGAL
import Derived.Test.YtmmbbndoimleaaaGreatDoorGAK
import Derived.Test.YtmmbbndoimleaaaGreatDoorGAI
import Derived.Deep.RegionHeld3
import Derived.Test.YtmmbbndoimleaaaGreatDoorGAJ
import Derived.Test.YtmmbbndoimleaaaGreatDoorGAF
import Derived.Test.YtmmbbndoimleaaaGreatDoorGAB

/- text and Text of the reference. -/
namespace Go.Proofs.YtmmbbndoimleaaaGreatDoor
open Go.RowKit Go.Shelf

theorem comB_pre {l L : List ByteArray} (h : l <+: L) (hL : sumN (fun x => x.size + 2) L ≤ 1000000000) : (comB l).size ≤ 1000000000 := by
  obtain ⟨t, rfl⟩ := h
  rw [sumN_append] at hL
  have := comB_size l
  omega
theorem joinB_com (o e : ByteArray) (L : List ByteArray) : joinB o e L = o ++ comB L ++ e := rfl
theorem mtext_assoc (O L T : ByteArray) : ((O ++ L) ++ ⟨#[58, 32]⟩) ++ T = O ++ (L ++ ⟨#[58, 32]⟩ ++ T) := by
  rw [ByteArray.append_assoc, ByteArray.append_assoc, ← ByteArray.append_assoc (a := L)]

set_option maxRecDepth 100000 in
set_option maxHeartbeats 4000000 in
theorem rtext_run : ∀ (m r : Nat) (d : Dt) (A : Option Addr) (c : Nat) (A' : Option Addr) (c' : Nat) (w : World), Parts w w.heap.size m d A c A' c' → checkF r d = 0 → tbF m d ≤ 1000000000 →
    Calls Tryz.prog 63 #[datV d A c A' c'] w fun e w' => e = .returned (.string (textF m d)) ∧ Below w.heap.size w w' := by
  intro m
  induction m with
  | zero => intro r d A c A' c' w hp _ _; exact hp.elim
  | succ m ih =>
    intro r d A c A' c' w hp hv hbd
    obtain ⟨r', rfl, hown, hkv⟩ := check_zero' hv
    obtain ⟨hpl0, _⟩ := own_zero hown
    have hk6 := kinds_of hpl0
    have hflat : (iD d).length = 0 ∨ (mD d).length = 0 := by
      obtain ⟨_, _, p3, p4⟩ := plain_fields hpl0
      rcases p3 with h | h
      · right; rw [p4.resolve_left (by omega)]; rfl
      · left; rw [h]; rfl
    have htb := partsL_le m (textF m) (textF_le m) d
    have HPL := hide (show sumN (fun x => x.size + 2) (partsL (textF m) d) ≤ 1000000000 by omega)
    have hpl : (partsL (textF m) d).length ≤ 1000000000 := Nat.le_trans (sumN_len (fun x : ByteArray => x.size + 2) (fun x => by omega) _) HPL.out
    have hsz : (sD d).size ≤ 1000000000 := by omega
    obtain ⟨hb1, hb2⟩ := tbF_kids (m := m) (d := d)
    obtain ⟨⟨h1, h2, h3, h4⟩, hI, hM⟩ := hp
    have hm := maxLen_le h2; have hm' := maxLen_le h4
    have HI := hide fun i x (h : (iD d)[i]? = some x) => And.intro (hI i x h) (And.intro (hkv x (is_kid (List.mem_of_getElem? h))) (show tbF m x ≤ 1000000000 by have := hb1 x (List.mem_of_getElem? h); omega))
    have HM := hide fun i x (h : (mD d)[i]? = some x) => And.intro (hM i x h) (And.intro (hkv x.2 (ms_kid (List.mem_of_getElem? h))) (show x.1.size ≤ 1000000000 ∧ tbF m x.2 ≤ 1000000000 by have := hb2 x (List.mem_of_getElem? h); omega))
    obtain ⟨res, hres⟩ : ∃ r, r = textF (m + 1) d := ⟨_, rfl⟩
    rw [← hres]
    rw [textF] at hres
    unfold datV datCs
    obtain ⟨k, hk⟩ : ∃ k, k = kD d := ⟨_, rfl⟩
    obtain ⟨n, hn'⟩ : ∃ k, k = nD d := ⟨_, rfl⟩
    obtain ⟨s, hs⟩ : ∃ k, k = sD d := ⟨_, rfl⟩
    obtain ⟨L, hL⟩ : ∃ k, k = partsL (textF m) d := ⟨_, rfl⟩
    rw [← hL] at HPL hpl
    rw [← hk, ← hn', ← hs, ← hL] at hres
    rw [← hs] at hsz
    rw [← hk] at hk6
    unfold partsL at hL
    obtain ⟨xs, hxs⟩ : ∃ k, k = iD d := ⟨_, rfl⟩
    obtain ⟨ys, hys⟩ : ∃ k, k = mD d := ⟨_, rfl⟩
    rw [← hxs] at HI h1 hflat
    rw [← hys] at HM h3 hflat
    rw [← hxs, ← hys] at hL
    rw [← hk, ← hn', ← hs, ← hxs, ← hys]
    have hxy : xs.length + ys.length ≤ 1000000000 := by rw [hL] at hpl; simpa using hpl
    obtain ⟨LA, hLA⟩ : ∃ k, k = xs.map (textF m) := ⟨_, rfl⟩
    obtain ⟨LC, hLC⟩ : ∃ k, k = ys.map (mtext (textF m)) := ⟨_, rfl⟩
    have HLA := hide (show ∀ i X, xs[i]? = some X → LA[i]? = some (textF m X) from fun i X h => by rw [hLA, List.getElem?_map, h]; rfl)
    have HLC := hide (show ∀ i X, ys[i]? = some X → LC[i]? = some (mtext (textF m) X) from fun i X h => by rw [hLC, List.getElem?_map, h]; rfl)
    have HLAL := hide (show LA.length = xs.length by rw [hLA, List.length_map])
    have HLCL := hide (show LC.length = ys.length by rw [hLC, List.length_map])
    rw [← hLA, ← hLC] at hL
    clear hLA hLC
    obtain ⟨x, hx⟩ : ∃ k, k = xs.length := ⟨_, rfl⟩
    obtain ⟨y, hy⟩ : ∃ k, k = ys.length := ⟨_, rfl⟩
    rw [← hx] at h1 hxy hflat
    rw [← hy] at h3 hxy hflat
    rw [← hx, ← hy]
    have HPA := hide (show ∀ i, (comB (LA.take i)).size ≤ 1000000000 from fun i => comB_pre (by rw [hL]; exact (List.take_prefix i LA).trans (List.prefix_append _ _)) HPL.out)
    have HPC := hide (show ∀ i, (comB (LA ++ LC.take i)).size ≤ 1000000000 from fun i => comB_pre (by rw [hL]; exact (List.prefix_append_right_inj LA).2 (List.take_prefix i LC)) HPL.out)
    have HL := Lib.hid hL; have HX := Lib.hid hx; have HY := Lib.hid hy; have HRES := Lib.hid hres
    have HQ := hide fun w => refQuote_run s hsz w
    have HN := hide fun w => refNumText_run n w
    have HLL := hide fun S (h : S.size ≤ 1000000000) w => refLabel_run S h w
    clear hk hn' hs hxs hys hx hy h2 h4 hL hM hI hres hb1 hb2 hbd htb hpl hpl0 hv hkv hown
    go_enter Tryz.func63, Tryz.ntmps63
    go_upto_region 1 with fail
    obtain ⟨w1, g, e1, e2, hBL, c0, c1, c2, c3, c4, hROW⟩ := boxD w k n s (.slice A x c) (.slice A' y c')
    rw [e1, e2]
    have HBL := hide hBL; have HROW := hide hROW
    have hgl : g < w1.heap.size := hROW.lt
    have hgw : w.heap.size ≤ g := by omega
    clear e1 e2 hBL hROW
    have HC := hide fun W (h : Below w1.heap.size w1 W) => row5 (HROW.out.below h)
    by_cases k1 : k = 1
    · subst k1
      have HZ := hide (show res = ⟨#[110, 117, 108, 108]⟩ by rw [HRES.out]; rfl)
      go_wp2_with fail
      go_ret
      exact ⟨ret_str HZ.out.symm, HBL.out⟩
    by_cases k2 : k = 2
    · subst k2
      by_cases n1 : n = 1
      · subst n1
        have HZ := hide (show res = ⟨#[116, 114, 117, 101]⟩ by rw [HRES.out]; rfl)
        go_wp2_with fail
        go_ret
        exact ⟨ret_str HZ.out.symm, HBL.out⟩
      · have HZ := hide (show res = ⟨#[102, 97, 108, 115, 101]⟩ by rw [HRES.out]; unfold textK; rw [if_pos rfl, if_neg n1])
        have g1 : (n == 1) = false := by simpa using n1
        go_wp2_with fail
        go_ret
        exact ⟨ret_str HZ.out.symm, HBL.out⟩
    by_cases k3 : k = 3
    · subst k3
      have HZ := hide (show res = numB n by rw [HRES.out]; rfl)
      go_wp2_with fail
      refine (HN.out _).mono ?_; rintro e w4 ⟨rfl, hB4⟩
      have HB4 := hide (HBL.out.trans (hB4.mono HBL.out.size))
      clear hB4
      go_wp2_with fail
      go_ret
      exact ⟨ret_str HZ.out.symm, HB4.out⟩
    by_cases k4 : k = 4
    · subst k4
      have HZ := hide (show res = quoteB s by rw [HRES.out]; rfl)
      go_wp2_with fail
      refine (HQ.out _).mono ?_; rintro e w4 ⟨rfl, hB4⟩
      have HB4 := hide (HBL.out.trans (hB4.mono HBL.out.size))
      clear hB4
      go_wp2_with fail
      go_ret
      exact ⟨ret_str HZ.out.symm, HB4.out⟩
    have g1 : (k == 1) = false := by simpa using k1
    have g2 : (k == 2) = false := by simpa using k2
    have g3 : (k == 3) = false := by simpa using k3
    have g4 : (k == 4) = false := by simpa using k4
    have HFIN := hide (show (k = 5 ∧ res = ⟨#[91]⟩ ++ comB L ++ ⟨#[93]⟩) ∨ ((k == 5) = false ∧ res = ⟨#[123]⟩ ++ comB L ++ ⟨#[125]⟩) by
      rcases (show k = 5 ∨ k = 6 by omega) with h | h
      · exact .inl ⟨h, by rw [HRES.out, h]; rfl⟩
      · exact .inr ⟨by rw [h]; rfl, by rw [HRES.out, h]; rfl⟩)
    clear HRES HQ HN k1 k2 k3 k4 hk6 hsz HPL
    go_wp2_with fail
    clear g1 g2 g3 g4 c0 c1 c2 c3 c4
    go_loopw [3, 4] (fun ov iv wr => ∃ (i : Nat) (O : ByteArray), iv = .int .i64 i ∧ ov = .string O ∧ i ≤ x ∧ O.size ≤ 1000000000 ∧ Hid (O = comB (LA.take i)) ∧ Hid (Below w1.heap.size w1 wr)) (fun _ iv _ => x - (intOf iv).toNat)
    case atStart => exact ⟨0, ⟨#[]⟩, rfl, rfl, Nat.zero_le _, by decide, hide rfl, hide (Below.refl _ _)⟩
    case round =>
      obtain ⟨i, O, rfl, rfl, hi, hO, hI, hB⟩ := hrel
      have hwB := HBL.out.trans (hB.out.mono HBL.out.size)
      obtain ⟨c0, c1, c2, c3, c4⟩ := HC.out _ hB.out
      by_cases hlt : i < x
      · have hlt' : i < xs.length := by rw [← HX.out]; exact hlt
        obtain ⟨⟨ad, rfl, hb, a, q, a', q', hfive, hpts⟩, hkd, htx⟩ := HI.out i _ (List.getElem?_eq_getElem hlt')
        obtain ⟨X, hX⟩ : ∃ X, X = xs[i] := ⟨_, rfl⟩
        rw [← hX] at hfive hpts htx hkd
        have hbb : (ad.add (i * 5)).block < w.heap.size := by rw [block_of_add]; exact hb
        obtain ⟨s0, s1, s2, s3, s4⟩ := hfive.same hbb (Same.of_below hwB)
        have HCK := hide (ih r' X a q a' q' wr (hpts.turn (Same.of_below hwB) hwB.size) hkd htx)
        have hts := textF_le m X
        have HXX := hide (show (if 0 < i then O ++ ⟨#[44, 32]⟩ else O) ++ textF m X = comB (LA.take (i + 1)) by
          have h1 : (LA.take i).length = i := by rw [List.length_take, HLAL.out]; omega
          rw [List.take_add_one, HLA.out i _ (List.getElem?_eq_getElem hlt'), ← hX]
          show _ = comB (LA.take i ++ [textF m X])
          rw [comB_push, h1, ← hI.out])
        unfold datV datCs at HCK
        obtain ⟨T, hT⟩ : ∃ T, T = textF m X := ⟨_, rfl⟩
        rw [← hT] at HCK HXX hts
        have hT1 : T.size ≤ 1000000000 := by omega
        clear hfive hpts hX hlt' hb hbb htx hT hwB hI hkd hts
        by_cases hi0 : 0 < i
        · have g1 : decide ((i : Int) > 0) = true := by simp; omega
          have HY2 := hide (show O ++ ⟨#[44, 32]⟩ ++ T = comB (LA.take (i + 1)) by have := HXX.out; rwa [if_pos hi0] at this)
          have hs1 : (O ++ ⟨#[44, 32]⟩ : ByteArray).size ≤ 1000000002 := by rw [bsize_append]; show O.size + 2 ≤ _; omega
          clear HXX
          go_wp2_with fail
          refine HCK.out.mono ?_; rintro e w4 ⟨rfl, hB4⟩
          have HB4 := hide (hB.out.trans (hB4.mono hB.out.size))
          clear hB4 HCK s0 s1 s2 s3 s4 c0 c1 c2 c3 c4 hB
          go_wp2_with fail
          go_roundw
          case rel => exact ⟨i + 1, _, by go_num, rfl, by omega, by rw [HY2.out]; exact HPA.out _, HY2, HB4⟩
          case measure => simp [intOf]; omega
        · have g1 : decide ((i : Int) > 0) = false := by simp; omega
          have HY2 := hide (show O ++ T = comB (LA.take (i + 1)) by have := HXX.out; rwa [if_neg hi0] at this)
          clear HXX
          go_wp2_with fail
          refine HCK.out.mono ?_; rintro e w4 ⟨rfl, hB4⟩
          have HB4 := hide (hB.out.trans (hB4.mono hB.out.size))
          clear hB4 HCK s0 s1 s2 s3 s4 c0 c1 c2 c3 c4 hB
          go_wp2_with fail
          go_roundw
          case rel => exact ⟨i + 1, _, by go_num, rfl, by omega, by rw [HY2.out]; exact HPA.out _, HY2, HB4⟩
          case measure => simp [intOf]; omega
      · obtain rfl : i = x := by omega
        have HO0 := hide (show O = comB (LA ++ LC.take 0) by
          have e : LA.take i = LA := by rw [HX.out, ← HLAL.out, List.take_length]
          rw [hI.out, e, List.take_zero, List.append_nil])
        have HB0 := hide hB.out
        clear hI hwB
        go_wp2_with fail
        clear hB c0 c1 c2 c3 c4 HI hlt hi
        obtain ⟨w2, rfl⟩ : ∃ w2, w2 = wr := ⟨_, rfl⟩
        go_loopw [3, 5] (fun ov iv wr => ∃ (j : Nat) (O : ByteArray), iv = .int .i64 j ∧ ov = .string O ∧ j ≤ y ∧ O.size ≤ 1000000000 ∧ Hid (O = comB (LA ++ LC.take j)) ∧ Hid (Below w1.heap.size w1 wr)) (fun _ iv _ => y - (intOf iv).toNat)
        case atStart => exact ⟨0, O, rfl, rfl, Nat.zero_le _, hO, HO0, HB0⟩
        case round =>
          clear HO0 HB0
          obtain ⟨j, O, rfl, rfl, hj, hO, hI, hB⟩ := hrel
          have hwB := HBL.out.trans (hB.out.mono HBL.out.size)
          obtain ⟨c0, c1, c2, c3, c4⟩ := HC.out _ hB.out
          by_cases hlt : j < y
          · have hlt' : j < ys.length := by rw [← HY.out]; exact hlt
            have hx0 : i = 0 := by omega
            obtain ⟨⟨ad, rfl, hb, hlab, a, q, a', q', hfive, hpts⟩, hkd, hls, htx⟩ := HM.out j _ (List.getElem?_eq_getElem hlt')
            obtain ⟨M, hMM⟩ : ∃ M, M = ys[j] := ⟨_, rfl⟩
            rw [← hMM] at hlab hfive hpts htx hls hkd
            have hbb : (ad.add (j * 6)).block < w.heap.size := by rw [block_of_add]; exact hb
            have HSIX := hide fun W (h : Below wr.heap.size wr W) => And.intro (HC.out W (hB.out.trans (h.mono hB.out.size))).2.2.2.2 (six_of (((hwB.trans (h.mono hwB.size)).cell (p := ad.add (j * 6)) hbb).trans hlab) (hfive.same (p := ⟨_, _, none⟩) hbb (Same.of_below (hwB.trans (h.mono hwB.size)))))
            have HCK := hide fun w' (h : Below wr.heap.size wr w') => ih r' M.2 a q a' q' w' (hpts.turn (Same.of_below (hwB.trans (h.mono hwB.size))) (hwB.trans (h.mono hwB.size)).size) hkd htx
            have HLB := hide fun w' => HLL.out M.1 hls w'
            have hts := textF_le m M.2
            have hlbs := labelB_size M.1
            have HXX := hide (show (if 0 < j then O ++ ⟨#[44, 32]⟩ else O) ++ (labelB M.1 ++ ⟨#[58, 32]⟩ ++ textF m M.2) = comB (LA ++ LC.take (j + 1)) by
              have h1 : (LA ++ LC.take j).length = j := by rw [List.length_append, List.length_take, HLAL.out, HLCL.out, ← HX.out]; omega
              rw [List.take_add_one, HLC.out j _ (List.getElem?_eq_getElem hlt'), ← hMM, ← List.append_assoc]
              show _ = comB ((LA ++ LC.take j) ++ [mtext (textF m) M])
              rw [comB_push, h1, ← hI.out]; rfl)
            unfold datV datCs at HCK
            obtain ⟨T, hT⟩ : ∃ T, T = textF m M.2 := ⟨_, rfl⟩
            rw [← hT] at HCK HXX hts
            obtain ⟨LB, hLB⟩ : ∃ T, T = labelB M.1 := ⟨_, rfl⟩
            rw [← hLB] at HLB HXX hlbs
            have hT1 : T.size ≤ 1000000000 := by omega
            have hLB1 : LB.size ≤ 4000000002 := by omega
            obtain ⟨d4, s0, s1, s2, s3, s4, s5⟩ := HSIX.out _ (Below.refl _ _)
            clear hlab hfive hpts hMM hlt' hb hbb hT hLB hI hkd hls htx hts hlbs hx0
            by_cases hj0 : 0 < j
            · have g1 : decide ((j : Int) > 0) = true := by simp; omega
              have HY2 := hide (show ((O ++ ⟨#[44, 32]⟩ ++ LB) ++ ⟨#[58, 32]⟩) ++ T = comB (LA ++ LC.take (j + 1)) by have := HXX.out; rw [if_pos hj0] at this; rw [mtext_assoc]; exact this)
              have hs1 : (O ++ ⟨#[44, 32]⟩ : ByteArray).size ≤ 1000000002 := by rw [bsize_append]; show O.size + 2 ≤ _; omega
              clear HXX
              go_wp2_with fail
              go_region_held_law (fun W => W.cell? ⟨g, 4, none⟩ = some (.slice (some ad) y c') ∧ (W.cell? (ad.add (j * 6)) = some (.string M.1) ∧ W.cell? ⟨(ad.add (j * 6)).block, (ad.add (j * 6)).off + 1, none⟩ = some (.int .i64 (kD M.2)) ∧ W.cell? ⟨(ad.add (j * 6)).block, (ad.add (j * 6)).off + 2, none⟩ = some (.int .i64 (nD M.2)) ∧ W.cell? ⟨(ad.add (j * 6)).block, (ad.add (j * 6)).off + 3, none⟩ = some (.string (sD M.2)) ∧
                  W.cell? ⟨(ad.add (j * 6)).block, (ad.add (j * 6)).off + 4, none⟩ = some (.slice a (iD M.2).length q) ∧ W.cell? ⟨(ad.add (j * 6)).block, (ad.add (j * 6)).off + 5, none⟩ = some (.slice a' (mD M.2).length q')))
                (first
                  | exact HSIX.out _ (((Below.refl _ _).drew.trans hB3).trans (hB4.mono hB3.size))
                  | exact HSIX.out _ ((Below.refl _ _).drew.trans hB3)
                  | exact HSIX.out _ (Below.refl _ _).drew)
                (first
                  | (go_at_call 85; refine (HLB.out _).mono ?_; rintro e w3 ⟨rfl, hB3⟩)
                  | (go_at_call 63; refine (HCK.out _ ((Below.refl _ _).drew.trans hB3)).mono ?_; rintro e w4 ⟨rfl, hB4⟩))
              all_goals
                have HB4 := hide (hB.out.trans ((((Below.refl _ _).drew.trans hB3).trans (hB4.mono hB3.size)).mono hB.out.size))
                clear hB3 hB4 HCK HSIX HLB s0 s1 s2 s3 s4 s5 d4 c0 c1 c2 c3 c4 hB hwB
                go_wp2_with fail
                go_roundw
                case rel => exact ⟨j + 1, _, by go_num, rfl, by omega, by rw [HY2.out]; exact HPC.out _, HY2, HB4⟩
                case measure => simp [intOf]; omega
            · have g1 : decide ((j : Int) > 0) = false := by simp; omega
              have HY2 := hide (show ((O ++ LB) ++ ⟨#[58, 32]⟩) ++ T = comB (LA ++ LC.take (j + 1)) by have := HXX.out; rw [if_neg hj0] at this; rw [mtext_assoc]; exact this)
              clear HXX
              go_wp2_with fail
              go_region_held_law (fun W => W.cell? ⟨g, 4, none⟩ = some (.slice (some ad) y c') ∧ (W.cell? (ad.add (j * 6)) = some (.string M.1) ∧ W.cell? ⟨(ad.add (j * 6)).block, (ad.add (j * 6)).off + 1, none⟩ = some (.int .i64 (kD M.2)) ∧ W.cell? ⟨(ad.add (j * 6)).block, (ad.add (j * 6)).off + 2, none⟩ = some (.int .i64 (nD M.2)) ∧ W.cell? ⟨(ad.add (j * 6)).block, (ad.add (j * 6)).off + 3, none⟩ = some (.string (sD M.2)) ∧
                  W.cell? ⟨(ad.add (j * 6)).block, (ad.add (j * 6)).off + 4, none⟩ = some (.slice a (iD M.2).length q) ∧ W.cell? ⟨(ad.add (j * 6)).block, (ad.add (j * 6)).off + 5, none⟩ = some (.slice a' (mD M.2).length q')))
                (first
                  | exact HSIX.out _ (((Below.refl _ _).drew.trans hB3).trans (hB4.mono hB3.size))
                  | exact HSIX.out _ ((Below.refl _ _).drew.trans hB3)
                  | exact HSIX.out _ (Below.refl _ _).drew)
                (first
                  | (go_at_call 85; refine (HLB.out _).mono ?_; rintro e w3 ⟨rfl, hB3⟩)
                  | (go_at_call 63; refine (HCK.out _ ((Below.refl _ _).drew.trans hB3)).mono ?_; rintro e w4 ⟨rfl, hB4⟩))
              all_goals
                have HB4 := hide (hB.out.trans ((((Below.refl _ _).drew.trans hB3).trans (hB4.mono hB3.size)).mono hB.out.size))
                clear hB3 hB4 HCK HSIX HLB s0 s1 s2 s3 s4 s5 d4 c0 c1 c2 c3 c4 hB hwB
                go_wp2_with fail
                go_roundw
                case rel => exact ⟨j + 1, _, by go_num, rfl, by omega, by rw [HY2.out]; exact HPC.out _, HY2, HB4⟩
                case measure => simp [intOf]; omega
          · obtain rfl : j = y := by omega
            have HO2 := hide (show O = comB L by
              have e : LC.take j = LC := by rw [HY.out, ← HLCL.out, List.take_length]
              rw [hI.out, e, HL.out])
            have HB := hide hwB
            clear hI hwB hB HX HY HLA HLC HLAL HLCL HL HPA HPC HM
            rcases HFIN.out with ⟨rfl, hr⟩ | ⟨g5, hr⟩
            · have HZ := hide (show ⟨#[91]⟩ ++ O ++ ⟨#[93]⟩ = res by rw [hr, HO2.out])
              clear hr HFIN HO2
              go_wp2_with fail
              go_ret
              exact ⟨ret_str HZ.out, HB.out⟩
            · have HZ := hide (show ⟨#[123]⟩ ++ O ++ ⟨#[125]⟩ = res by rw [hr, HO2.out])
              clear hr HFIN HO2
              go_wp2_with fail
              go_ret
              exact ⟨ret_str HZ.out, HB.out⟩

set_option maxRecDepth 20000 in
theorem refText_run (m : Nat) (d : Dt) (A : Option Addr) (c : Nat) (A' : Option Addr) (c' : Nat) (w : World) (hp : Parts w w.heap.size m d A c A' c') (hb : tbF m d ≤ 1000000000) :
    Calls Tryz.prog 33 #[datV d A c A' c'] w fun e w' => e = .returned (.tuple #[.string (textD m d), .int .i64 (checkD d)]) ∧ Below w.heap.size w w' := by
  have HC := hide fun w' (hB : Below w.heap.size w w') => refCheck_run m d A c A' c' w' (hp.turn (Same.of_below hB) hB.size)
  have HT := hide fun (h : checkD d = 0) w' (hB : Below w.heap.size w w') => rtext_run m 16 d A c A' c' w' (hp.turn (Same.of_below hB) hB.size) h hb
  unfold textD
  obtain ⟨z, hz⟩ : ∃ z, z = checkD d := ⟨_, rfl⟩
  rw [← hz] at HC HT ⊢
  obtain ⟨T, hT⟩ : ∃ z, z = textF m d := ⟨_, rfl⟩
  rw [← hT] at HT ⊢
  unfold datV datCs at HC HT
  unfold datV datCs
  obtain ⟨h1, h2, h3, h4⟩ := hp.lens
  have hm := maxLen_le h2; have hm' := maxLen_le h4
  obtain ⟨k, hk⟩ : ∃ k, k = kD d := ⟨_, rfl⟩
  obtain ⟨n, hn'⟩ : ∃ k, k = nD d := ⟨_, rfl⟩
  obtain ⟨s, hs⟩ : ∃ k, k = sD d := ⟨_, rfl⟩
  obtain ⟨x, hx⟩ : ∃ k, k = (iD d).length := ⟨_, rfl⟩
  obtain ⟨y, hy⟩ : ∃ k, k = (mD d).length := ⟨_, rfl⟩
  rw [← hk, ← hn', ← hs, ← hx, ← hy] at HC HT ⊢
  rw [← hx] at h1
  rw [← hy] at h3
  clear hp hb hz hT hk hn' hs hx hy h2 h4
  go_enter Tryz.func33, Tryz.ntmps33
  go_upto_region 1 with fail
  obtain ⟨w1, g, e1, e2, hBL, c0, c1, c2, c3, c4, hROW⟩ := boxD w k n s (.slice A x c) (.slice A' y c')
  rw [e1, e2]
  have HBL := hide hBL; have HROW := hide hROW
  clear e1 e2 hBL hROW
  go_wp2_with fail
  refine (HC.out _ HBL.out).mono ?_; rintro e w2 ⟨rfl, hB2⟩
  obtain ⟨c0', c1', c2', c3', c4'⟩ := row5 (HROW.out.below hB2)
  have HB2 := hide (HBL.out.trans (hB2.mono HBL.out.size))
  clear c0 c1 c2 c3 c4 hB2 HROW HBL HC
  by_cases hz : z = 0
  · subst hz
    have HT1 := hide (HT.out (by trivial))
    clear HT
    go_wp2_with fail
    refine (HT1.out _ HB2.out).mono ?_; rintro e w3 ⟨rfl, hB3⟩
    have HB3 := hide (HB2.out.trans (hB3.mono HB2.out.size))
    clear hB3
    go_wp2_with fail
    go_ret2
    exact ⟨rfl, HB3.out⟩
  · have g1 : (z != 0) = true := by simpa using hz
    go_wp2_with fail
    go_ret2
    exact ⟨by first | rfl | (rw [if_neg hz]; rfl) | (simp [hz]; rfl), HB2.out⟩
end Go.Proofs.YtmmbbndoimleaaaGreatDoor

/- The law of Text. -/
namespace Go.Proofs.YtmmbbndoimleaaaGreatDoor
open Go.RowKit

theorem sumN_sumL {α : Type} (f : α → Nat) (g : Dt → Int) (k : α → Dt) : ∀ (l : List α), (∀ x ∈ l, (f x : Int) ≤ 710 * g (k x)) → (sumN f l : Int) ≤ 710 * sumL g (l.map k)
  | [], _ => by simp [sumN, sumL]
  | x :: l, h => by
    have h1 := h x (List.mem_cons_self ..)
    have h2 := sumN_sumL f g k l (fun y hy => h y (List.mem_cons_of_mem _ hy))
    rw [sumN, List.map_cons, sumL]; omega
theorem sumL_app (g : Dt → Int) : ∀ (l k : List Dt), sumL g (l ++ k) = sumL g l + sumL g k
  | [], k => by simp [sumL]
  | x :: l, k => by rw [List.cons_append, sumL, sumL, sumL_app g l k]; omega
theorem tb_small {w : World} {B : Nat} : ∀ (m : Nat) {d : Dt} {A c A' c'}, Parts w B m d A c A' c' → shortF m d = true → (tbF m d : Int) + 330 ≤ 710 * partsF m d
  | 0, _, _, _, _, _, hp, _ => hp.elim
  | m + 1, d, A, c, A', c', hp, h => by
    unfold shortF at h
    rw [Bool.and_eq_true, Bool.and_eq_true, List.all_eq_true, List.all_eq_true] at h
    obtain ⟨hs, hi, hm⟩ := h
    have hs' : (sD d).size ≤ 80 := by simpa using hs
    have h1 := sumN_sumL (tbF m) (partsF m) id (iD d) fun x hx => by
      obtain ⟨a, q, a', q', hq⟩ := parts_kid hp (is_kid hx)
      have := tb_small m hq (hi x hx)
      simp only [id]; omega
    have h2 := sumN_sumL (fun x : ByteArray × Dt => 10 + 4 * x.1.size + tbF m x.2) (partsF m) Prod.snd (mD d) fun x hx => by
      obtain ⟨a, q, a', q', hq⟩ := parts_kid hp (ms_kid hx)
      have h3 := hm x hx
      unfold shortM at h3
      rw [Bool.and_eq_true] at h3
      have := tb_small m hq h3.2
      have h4 : x.1.size ≤ 80 := by simpa using h3.1
      omega
    have e : partsF (m + 1) d = 1 + (sumL (partsF m) (iD d) + sumL (partsF m) ((mD d).map Prod.snd)) := by
      show 1 + sumL (partsF m) (kids d) = _
      unfold kids; rw [sumL_app]
    have e2 : tbF (m + 1) d = 60 + 4 * (sD d).size + sumN (tbF m) (iD d) + sumN (fun x : ByteArray × Dt => 10 + 4 * x.1.size + tbF m x.2) (mD d) := rfl
    rw [List.map_id] at h1
    rw [e, e2]; omega
theorem small_tb {w : World} {B m : Nat} {d : Dt} {A c A' c'} (hp : Parts w B m d A c A' c') (h : smallF m d = true) : tbF m d ≤ 1000000000 := by
  have h1 := small_parts hp h
  unfold smallF at h
  rw [Bool.and_eq_true] at h
  have h2 := tb_small m hp h.2
  omega

end Go.Proofs.YtmmbbndoimleaaaGreatDoor

/- Documents are equal exactly if the data is; their bytes; plain. -/
namespace Go.Proofs.YtmmbbndoimleaaaGreatDoor
open Go.RowKit Go.Shelf

theorem same_norm2 : ∀ (M m : Nat) (d : Dt), sameF M (normF m d) d = true
  | 0, _, _ => rfl
  | M + 1, 0, d => same_self _ d
  | M + 1, m + 1, d => by
    unfold normF sameF
    rw [kD_mk, nD_mk, sD_mk, iD_mk, mD_mk, zipD_map fun x _ => same_norm2 M m x, zipM_map fun x _ => same_norm2 M m x.2]
    unfold diffQ
    simp
theorem zipD_eq {f : Dt → Dt → Bool} {g : Dt → Dt} (hf : ∀ x y, g x = g y → f x y = true) : ∀ {l k : List Dt}, l.map g = k.map g → zipD f l k = true
  | [], [], _ => rfl
  | [], _ :: _, h => by cases h
  | _ :: _, [], h => by cases h
  | x :: l, y :: k, h => by
    rw [List.map_cons, List.map_cons] at h
    injection h with h1 h2
    unfold zipD
    rw [hf x y h1, zipD_eq hf h2]; rfl
theorem zipM_eq {f : Dt → Dt → Bool} {g : Dt → Dt} (hf : ∀ x y, g x = g y → f x y = true) : ∀ {l k : List (ByteArray × Dt)}, (l.map fun x => (x.1, g x.2)) = (k.map fun x => (x.1, g x.2)) → zipM f l k = true
  | [], [], _ => rfl
  | [], _ :: _, h => by cases h
  | _ :: _, [], h => by cases h
  | x :: l, y :: k, h => by
    rw [List.map_cons, List.map_cons] at h
    injection h with h1 h2
    injection h1 with h1 h3
    unfold zipM
    rw [h1, hf x.2 y.2 h3, zipM_eq hf h2]; simp
theorem norm_same : ∀ (m : Nat) (a b : Dt), normF m a = normF m b → sameF m a b = true
  | 0, _, _, _ => rfl
  | m + 1, a, b, h => by
    have e1 := congrArg kD h
    have e2 := congrArg nD h
    have e3 := congrArg sD h
    have e4 := congrArg iD h
    have e5 := congrArg mD h
    unfold normF at e1 e2 e3 e4 e5
    rw [kD_mk, kD_mk] at e1
    rw [nD_mk, nD_mk] at e2
    rw [sD_mk, sD_mk] at e3
    rw [iD_mk, iD_mk] at e4
    rw [mD_mk, mD_mk] at e5
    have l4 := congrArg List.length e4
    have l5 := congrArg List.length e5
    rw [List.length_map, List.length_map] at l4 l5
    unfold sameF
    rw [zipD_eq (norm_same m) e4, zipM_eq (norm_same m) e5]
    unfold diffQ
    rw [e1, e2, e3, l4, l5]
    simp
theorem zip_mapD {γ : Type} {f : Dt → Dt → Bool} {g : Dt → γ} : ∀ {l k : List Dt}, zipD f l k = true → l.length = k.length → (∀ x ∈ l, ∀ y ∈ k, f x y = true → g x = g y) → l.map g = k.map g
  | [], [], _, _, _ => rfl
  | [], _ :: _, _, h, _ => by simp at h
  | _ :: _, [], _, h, _ => by simp at h
  | x :: l, y :: k, h, hl, hf => by
    unfold zipD at h
    rw [Bool.and_eq_true] at h
    rw [List.map_cons, List.map_cons, hf x (List.mem_cons_self ..) y (List.mem_cons_self ..) h.1, zip_mapD h.2 (by simpa using hl) fun a ha b hb => hf a (List.mem_cons_of_mem _ ha) b (List.mem_cons_of_mem _ hb)]
theorem zip_mapM {γ : Type} {f : Dt → Dt → Bool} {g : ByteArray × Dt → γ} : ∀ {l k : List (ByteArray × Dt)}, zipM f l k = true → l.length = k.length → (∀ x ∈ l, ∀ y ∈ k, x.1 = y.1 → f x.2 y.2 = true → g x = g y) → l.map g = k.map g
  | [], [], _, _, _ => rfl
  | [], _ :: _, _, h, _ => by simp at h
  | _ :: _, [], _, h, _ => by simp at h
  | x :: l, y :: k, h, hl, hf => by
    unfold zipM at h
    rw [Bool.and_eq_true, Bool.and_eq_true] at h
    have hs : x.1 = y.1 := by
      have h1 := h.1.1
      simp only [beq_iff_eq] at h1
      apply ByteArray.ext
      apply Array.toList_inj.1
      rw [ba_toList, ba_toList] at h1
      exact h1
    rw [List.map_cons, List.map_cons, hf x (List.mem_cons_self ..) y (List.mem_cons_self ..) hs h.1.2, zip_mapM h.2 (by simpa using hl) fun a ha b hb => hf a (List.mem_cons_of_mem _ ha) b (List.mem_cons_of_mem _ hb)]
/-- The same data has the same document. -/
theorem text_same (b : Bool) : ∀ (m r r' lv : Nat) (d e : Dt), checkF r d = 0 → checkF r' e = 0 → sameF m d e = true → jtF b m lv d = jtF b m lv e
  | 0, _, _, _, _, _, _, _, _ => rfl
  | m + 1, r, r', lv, d, e, hd, he, h => by
    obtain ⟨r1, rfl, ho, hk⟩ := valid_kid hd
    obtain ⟨r2, rfl, ho', hk'⟩ := valid_kid he
    obtain ⟨f0, f1, f2, f3, f4, f5⟩ := valid_fields ho
    obtain ⟨_, _, _, f3', f4', _⟩ := valid_fields ho'
    unfold sameF at h
    rw [Bool.and_eq_true, Bool.and_eq_true] at h
    obtain ⟨h0, h1, h2⟩ := h
    unfold diffQ at h0
    simp at h0
    obtain ⟨⟨⟨⟨e1, e2⟩, e3⟩, e4⟩, e5⟩ := h0
    have e3' : sD d = sD e := by
      apply ByteArray.ext
      apply Array.toList_inj.1
      rw [ba_toList, ba_toList] at e3
      exact e3
    have hk6 : kD d = 1 ∨ kD d = 2 ∨ kD d = 3 ∨ kD d = 4 ∨ kD d = 5 ∨ kD d = 6 := by omega
    have wrap : kD d = 5 ∨ kD d = 6 → jtF b (m + 1) lv d = jtF b (m + 1) lv e := fun hw => by
      rw [pr_wrap b hw, pr_wrap b (by rw [← e1]; exact hw), ← e1]
      congr 1
      unfold jparts
      congr 1
      · exact zip_mapD h1 (by omega) fun x hx y hy hxy => by
          unfold jpartI
          rw [text_same b m r1 r2 (lv + 1) x y (hk x (is_kid hx)) (hk' y (is_kid hy)) hxy]
      · exact zip_mapM h2 (by omega) fun x hx y hy hl hxy => by
          unfold jpartM
          rw [text_same b m r1 r2 (lv + 1) x.2 y.2 (hk x.2 (ms_kid hx)) (hk' y.2 (ms_kid hy)) hxy, hl]
    have leaf : kD d = 1 ∨ kD d = 2 ∨ kD d = 3 → jtF b (m + 1) lv d = jtF b (m + 1) lv e := fun hl => by
      obtain ⟨a1, a2, a3⟩ := pr_leaf b (m := m) (lv := lv) ho (f3.resolve_left (by omega)) (f4.resolve_left (by omega))
      obtain ⟨c1, c2, c3⟩ := pr_leaf b (m := m) (lv := lv) ho' (f3'.resolve_left (by omega)) (f4'.resolve_left (by omega))
      rcases hl with k | k | k
      · rw [a1 k, c1 (by omega)]
      · rw [a2 k, c2 (by omega), e2]
      · rw [a3 k, c3 (by omega), e2]
    rcases hk6 with k | k | k | k | k | k
    · exact leaf (by omega)
    · exact leaf (by omega)
    · exact leaf (by omega)
    · rw [pr_str b k, pr_str b (by omega), e3']
    · exact wrap (by omega)
    · exact wrap (by omega)
theorem doc_same {m : Nat} {d e : Dt} (hd : Deep m d) (he : Deep m e) (h1 : checkD d = 0) (h2 : checkD e = 0) : ((jtF false m 0 d).toList == (jtF false m 0 e).toList) = sameF m d e := by
  cases hs : sameF m d e with
  | true => rw [text_same false m 16 16 0 d e h1 h2 hs]; simp
  | false =>
    rw [beq_eq_false_iff_ne]
    intro hne
    have e0 : jtF false m 0 d = jtF false m 0 e := by
      apply ByteArray.ext
      apply Array.toList_inj.1
      rw [ba_toList, ba_toList] at hne
      exact hne
    obtain ⟨_, v1⟩ := doc_read false hd h1
    obtain ⟨_, v2⟩ := doc_read false he h2
    rw [e0, v2] at v1
    injection v1 with v1
    injection v1 with v1 _
    have := norm_same m d e v1.symm
    rw [this] at hs
    cases hs
/-- A byte that prints. -/
def okB (c : UInt8) : Prop := 32 ≤ c.toNat ∧ c.toNat ≤ 126
theorem jqL_ok (c : Nat) (hc : c < 256) : ∀ x ∈ jqL c, okB x := fun x hx => by
  unfold jqL at hx
  split at hx
  · rename_i hs
    rcases jshN_kinds hs with ⟨rfl, e2⟩ | ⟨rfl, e2⟩ | ⟨rfl, e2⟩ | ⟨rfl, e2⟩ | ⟨rfl, e2⟩ | ⟨rfl, e2⟩ | ⟨rfl, e2⟩ <;>
    · rw [e2] at hx
      simp at hx
      rcases hx with rfl | rfl <;> exact ⟨by decide, by decide⟩
  · split at hx
    · have hh : ∀ a : Fin 16, 32 ≤ (hexN a.val).toNat ∧ (hexN a.val).toNat ≤ 126 := by decide
      simp at hx
      rcases hx with rfl | rfl | rfl | rfl | rfl
      · exact ⟨by decide, by decide⟩
      · exact ⟨by decide, by decide⟩
      · exact ⟨by decide, by decide⟩
      · exact hh ⟨c / 16, by omega⟩
      · exact hh ⟨c % 16, by omega⟩
    · rename_i hr
      simp at hx
      subst hx
      unfold okB
      simp
      omega
theorem jqB_ok (s : ByteArray) : ∀ x ∈ lst (jqB s), okB x := fun x hx => by
  rw [jqB_list] at hx
  rcases List.mem_cons.1 hx with rfl | hx
  · exact ⟨by decide, by decide⟩
  rcases List.mem_append.1 hx with hx | hx
  · obtain ⟨c, _, hc⟩ := List.mem_flatMap.1 hx
    exact jqL_ok c.toNat c.toNat_lt x hc
  · rw [List.mem_singleton.1 hx]; exact ⟨by decide, by decide⟩
theorem numC_ok {c : UInt8} (h : numC c) : okB c := by
  unfold numC digC at h
  rcases h with rfl | rfl | h
  · exact ⟨by decide, by decide⟩
  · exact ⟨by decide, by decide⟩
  · exact ⟨Nat.le_trans (by decide) h.1, Nat.le_trans h.2 (by decide)⟩
theorem join_ok {L : List (List UInt8)} (h : ∀ l ∈ L, ∀ c ∈ l, okB c) : ∀ c ∈ Lib.join L [44], okB c := by
  cases L with
  | nil => intro c hc; rw [Lib.join_nil] at hc; cases hc
  | cons x L =>
    intro c hc
    rw [Lib.join_cons] at hc
    rcases List.mem_append.1 hc with hc | hc
    · exact h x (List.mem_cons_self ..) c hc
    · unfold Lib.joinTail at hc
      obtain ⟨l, hl, hc⟩ := List.mem_flatten.1 hc
      obtain ⟨y, hy, rfl⟩ := List.mem_map.1 hl
      rcases List.mem_append.1 hc with hc | hc
      · rw [List.mem_singleton.1 hc]; exact ⟨by decide, by decide⟩
      · exact h y (List.mem_cons_of_mem _ hy) c hc
theorem doc_bytes : ∀ (m r lv : Nat) (d : Dt), checkF r d = 0 → ∀ c ∈ lst (jtF false m lv d), okB c
  | 0, _, _, _, _, c, hc => by cases hc
  | m + 1, r, lv, d, h, c, hc => by
    obtain ⟨r1, rfl, ho, hk⟩ := valid_kid h
    obtain ⟨f0, f1, f2, f3, f4, f5⟩ := valid_fields ho
    have hk6 : kD d = 1 ∨ kD d = 2 ∨ kD d = 3 ∨ kD d = 4 ∨ (kD d = 5 ∨ kD d = 6) := by omega
    rcases hk6 with k | k | k | k | k
    · rw [(pr_leaf false (m := m) (lv := lv) ho (f3.resolve_left (by omega)) (f4.resolve_left (by omega))).1 k] at hc
      simp [lst] at hc
      rcases hc with rfl | rfl | rfl | rfl <;> exact ⟨by decide, by decide⟩
    · rw [(pr_leaf false (m := m) (lv := lv) ho (f3.resolve_left (by omega)) (f4.resolve_left (by omega))).2.1 k] at hc
      split at hc
      · simp [lst] at hc
        rcases hc with rfl | rfl | rfl | rfl <;> exact ⟨by decide, by decide⟩
      · simp [lst] at hc
        rcases hc with rfl | rfl | rfl | rfl | rfl <;> exact ⟨by decide, by decide⟩
    · rw [(pr_leaf false (m := m) (lv := lv) ho (f3.resolve_left (by omega)) (f4.resolve_left (by omega))).2.2 k] at hc
      exact numC_ok (num_chars ((range_of ho).2 k) c hc)
    · rw [pr_str false k] at hc
      exact jqB_ok _ c hc
    · rw [pr_wrap false k] at hc
      have hopen : ∀ c ∈ lst (openB (kD d)), okB c := fun c hc => by
        unfold openB at hc
        split at hc <;> (simp [lst] at hc; subst hc; exact ⟨by decide, by decide⟩)
      have hshut : ∀ c ∈ lst (shutB (kD d)), okB c := fun c hc => by
        unfold shutB at hc
        split at hc <;> (simp [lst] at hc; subst hc; exact ⟨by decide, by decide⟩)
      unfold wrapB at hc
      split at hc
      · rw [lst_append] at hc
        rcases List.mem_append.1 hc with hc | hc
        · exact hopen c hc
        · exact hshut c hc
      · rw [lst_append, lst_append, lst_append] at hc
        rcases List.mem_append.1 hc with hc | hc
        · rcases List.mem_append.1 hc with hc | hc
          · rcases List.mem_append.1 hc with hc | hc
            · exact hopen c hc
            · refine join_ok (L := (jparts false lv (jtF false m (lv + 1)) d).map lst) (fun l hl x hx => ?_) c hc
              obtain ⟨p, hp, rfl⟩ := List.mem_map.1 hl
              unfold jparts at hp
              rcases List.mem_append.1 hp with hp | hp
              · obtain ⟨y, hy, rfl⟩ := List.mem_map.1 hp
                unfold jpartI at hx
                rw [lst_append] at hx
                rcases List.mem_append.1 hx with hx | hx
                · cases hx
                · exact doc_bytes m r1 (lv + 1) y (hk y (is_kid hy)) x hx
              · obtain ⟨y, hy, rfl⟩ := List.mem_map.1 hp
                unfold jpartM at hx
                rw [lst_append, lst_append, lst_append] at hx
                rcases List.mem_append.1 hx with hx | hx
                · rcases List.mem_append.1 hx with hx | hx
                  · rcases List.mem_append.1 hx with hx | hx
                    · cases hx
                    · exact jqB_ok _ x hx
                  · have : x = 58 := by simpa [lst, colB] using hx
                    subst this; exact ⟨by decide, by decide⟩
                · exact doc_bytes m r1 (lv + 1) y.2 (hk y.2 (ms_kid hy)) x hx
          · cases hc
        · exact hshut c hc
theorem doc_byte {m : Nat} {d : Dt} (h : checkD d = 0) {i : Nat} (hi : i < (jtF false m 0 d).size) : 32 ≤ ((jtF false m 0 d)[i]).toNat ∧ ((jtF false m 0 d)[i]).toNat ≤ 126 :=
  doc_bytes m 16 0 d h _ (by show _ ∈ (jtF false m 0 d).data.toList; exact Array.getElem_mem_toList ..)

/-! How long a document of small data is. -/
theorem sumN_sumC {α : Type} (f : α → Nat) (g : Dt → Int) (k : α → Dt) (C : Int) : ∀ (l : List α), (∀ x ∈ l, (f x : Int) ≤ C * g (k x)) → (sumN f l : Int) ≤ C * sumL g (l.map k)
  | [], _ => by simp [sumN, sumL]
  | x :: l, h => by
    have h1 := h x (List.mem_cons_self ..)
    have h2 := sumN_sumC f g k C l (fun y hy => h y (List.mem_cons_of_mem _ hy))
    rw [sumN, List.map_cons, sumL, Int.mul_add]
    omega
theorem jb_small {w : World} {B : Nat} : ∀ (m : Nat) {d : Dt} {A c A' c'}, Parts w B m d A c A' c' → shortF m d = true → partsF m d ≤ 40 → (jbF m d : Int) + 600 ≤ 31000 * partsF m d
  | 0, _, _, _, _, _, hp, _, _ => hp.elim
  | m + 1, d, A, c, A', c', hp, h, hP => by
    have htb := tb_small (m + 1) hp h
    unfold shortF at h
    rw [Bool.and_eq_true, Bool.and_eq_true, List.all_eq_true, List.all_eq_true] at h
    obtain ⟨hs, hi, hm⟩ := h
    have hs' : (sD d).size ≤ 80 := by simpa using hs
    have h1 := sumN_sumC (fun x => 100 + jbF m x) (partsF m) id 31000 (iD d) fun x hx => by
      obtain ⟨a, q, a', q', hq⟩ := parts_kid hp (is_kid hx)
      have := parts_kid_le (m := m) (is_kid hx)
      have := jb_small m hq (hi x hx) (by omega)
      simp only [id]; omega
    have h2 := sumN_sumC (fun x : ByteArray × Dt => 100 + 6 * x.1.size + jbF m x.2) (partsF m) Prod.snd 31000 (mD d) fun x hx => by
      obtain ⟨a, q, a', q', hq⟩ := parts_kid hp (ms_kid hx)
      have h3 := hm x hx
      unfold shortM at h3
      rw [Bool.and_eq_true] at h3
      have := parts_kid_le (m := m) (ms_kid hx)
      have := jb_small m hq h3.2 (by omega)
      have h4 : x.1.size ≤ 80 := by simpa using h3.1
      omega
    have e : partsF (m + 1) d = 1 + (sumL (partsF m) (iD d) + sumL (partsF m) ((mD d).map Prod.snd)) := by
      show 1 + sumL (partsF m) (kids d) = _
      unfold kids; rw [sumL_app]
    have e2 : jbF (m + 1) d = 200 + 6 * (sD d).size + tbF (m + 1) d + sumN (fun x => 100 + jbF m x) (iD d) + sumN (fun x : ByteArray × Dt => 100 + 6 * x.1.size + jbF m x.2) (mD d) := rfl
    rw [List.map_id] at h1
    rw [e2]; omega
theorem small_jb {w : World} {B m : Nat} {d : Dt} {A c A' c'} (hp : Parts w B m d A c A' c') (h : smallF m d = true) : jbF m d ≤ 1000000000 := by
  have h1 := small_parts hp h
  unfold smallF at h
  rw [Bool.and_eq_true] at h
  have h2 := jb_small m hp h.2 h1
  omega
end Go.Proofs.YtmmbbndoimleaaaGreatDoor

/- short, quoted, line of package jsontext. -/
namespace Go.Proofs.YtmmbbndoimleaaaGreatDoor
open Go.RowKit Go.Shelf

theorem ret_sh {a b : Int} {p q : Bool} (h1 : a = b) (h2 : p = q) : Ending.returned (.tuple #[.int .u8 a, .bool p]) = .returned (.tuple #[.int .u8 b, .bool q]) := by rw [h1, h2]
theorem jsh_lt (c : Nat) (hc : c < 256) : jshN c < 256 := by
  unfold jshN; split
  · exact hc
  · split
    · omega
    split
    · omega
    split
    · omega
    split
    · omega
    split <;> omega
set_option maxHeartbeats 1000000 in
theorem jshort_run (c : Nat) (w : World) :
    Calls Tryz.prog 77 #[.int .u8 c] w fun e w' => e = .returned (.tuple #[.int .u8 (jshN c), .bool (decide (jshN c ≠ 0))]) ∧ w = w' := by
  by_cases h34 : c = 34
  · subst h34
    go_enter Tryz.func77, Tryz.ntmps77
    go_wp2_with fail
    go_ret2
    exact ⟨rfl, rfl⟩
  by_cases h92 : c = 92
  · subst h92
    go_enter Tryz.func77, Tryz.ntmps77
    go_wp2_with fail
    go_ret2
    exact ⟨rfl, rfl⟩
  by_cases h8 : c = 8
  · subst h8
    go_enter Tryz.func77, Tryz.ntmps77
    go_wp2_with fail
    go_ret2
    exact ⟨rfl, rfl⟩
  by_cases h9 : c = 9
  · subst h9
    go_enter Tryz.func77, Tryz.ntmps77
    go_wp2_with fail
    go_ret2
    exact ⟨rfl, rfl⟩
  by_cases h10 : c = 10
  · subst h10
    go_enter Tryz.func77, Tryz.ntmps77
    go_wp2_with fail
    go_ret2
    exact ⟨rfl, rfl⟩
  by_cases h12 : c = 12
  · subst h12
    go_enter Tryz.func77, Tryz.ntmps77
    go_wp2_with fail
    go_ret2
    exact ⟨rfl, rfl⟩
  by_cases h13 : c = 13
  · subst h13
    go_enter Tryz.func77, Tryz.ntmps77
    go_wp2_with fail
    go_ret2
    exact ⟨rfl, rfl⟩
  have e : jshN c = 0 := by
    unfold jshN
    rw [if_neg (by omega), if_neg h8, if_neg h9, if_neg h10, if_neg h12, if_neg h13]
  rw [e]
  have g1 : ((c : Int) == 34) = false := by simp; omega
  have g2 : ((c : Int) == 92) = false := by simp; omega
  have g3 : ((c : Int) == 8) = false := by simp; omega
  have g4 : ((c : Int) == 9) = false := by simp; omega
  have g5 : ((c : Int) == 10) = false := by simp; omega
  have g6 : ((c : Int) == 12) = false := by simp; omega
  have g7 : ((c : Int) == 13) = false := by simp; omega
  go_enter Tryz.func77, Tryz.ntmps77
  go_wp2_with fail
  go_ret2
  exact ⟨rfl, rfl⟩

theorem rep9 : ∀ c, Lib.repeatL [9] c = List.replicate c 9
  | 0 => rfl
  | c + 1 => by unfold Lib.repeatL; rw [rep9 c]; rfl
theorem repExtra : Builder.Extra Tryz.prog repeatL_ren where
  sizeBuilder := by kernel_rfl
  liesBuilder := by kernel_rfl
  t5 := Tryz.underlying5
  a5 := Tryz.isAgg5
  z5 := Tryz.sizeOf5
  v5 := Tryz.zeroValue5
  infoByte := by kernel_rfl
  cellsByte := by kernel_rfl
  sizeByte := by kernel_rfl
  neB5 := by decide
theorem repeat_run (c : Nat) (hc : c ≤ 1000) (w : World) :
    Calls Tryz.prog 79 #[.string ⟨#[9]⟩, .int .i64 c] w fun e w' => e = .returned (.string ⟨(List.replicate c 9).toArray⟩) ∧ Below w.heap.size w w' := by
  have := Any.strings_Repeat repeatL repExtra ⟨#[9]⟩ c w (by omega) (by show 1 * c ≤ _; omega)
  rw [show (⟨#[9]⟩ : ByteArray).data.toList = [9] from rfl, rep9] at this
  exact this
set_option maxHeartbeats 1000000 in
theorem line_run (b : Bool) (lv : Nat) (hlv : lv ≤ 1000) (w : World) :
    Calls Tryz.prog 60 #[.agg #[.bool b], .int .i64 lv] w fun e w' => e = .returned (.string (lineB b lv)) ∧ Below w.heap.size w w' := by
  have HR := hide fun W => repeat_run lv hlv W
  cases b with
  | false =>
    go_enter Tryz.func60, Tryz.ntmps60
    go_wp2_with fail
    go_ret
    exact ⟨rfl, (Below.refl _ _).alloc (Nat.le_refl _) _⟩
  | true =>
    obtain ⟨T, hT⟩ : ∃ T : ByteArray, T = ⟨(List.replicate lv 9).toArray⟩ := ⟨_, rfl⟩
    have hTs : T.size = lv := by rw [hT]; show (List.replicate lv (9 : UInt8)).toArray.size = lv; simp
    have HE := hide (show lineB true lv = ⟨#[10]⟩ ++ T by
      rw [hT]; unfold lineB; rw [if_pos rfl]
      apply ByteArray.ext
      rw [ByteArray.data_append]
      apply Array.toList_inj.1
      simp)
    rw [← hT] at HR
    clear hT
    go_enter Tryz.func60, Tryz.ntmps60
    go_wp2_with fail
    refine (HR.out _).mono ?_; rintro e w1 ⟨rfl, hB⟩
    have HB := hide (((Below.refl w.heap.size w).alloc (Nat.le_refl _) (.cells #[.bool true] 42)).trans (hB.mono (by simp)))
    clear hB
    go_wp2_with fail
    go_ret
    exact ⟨ret_str HE.out.symm, HB.out⟩
end Go.Proofs.YtmmbbndoimleaaaGreatDoor

/- quoted of package jsontext. -/
namespace Go.Proofs.YtmmbbndoimleaaaGreatDoor
open Go.RowKit

theorem jqS_append (a b : List UInt8) : jqS (a ++ b) = jqS a ++ jqS b := by unfold jqS; exact List.flatMap_append
theorem ByR.size {w : World} {b : Nat} {u : Value} {l k : List UInt8} (h : ByR w b u l) (e : l = k) : ByR w b u k := e ▸ h
theorem byR_app {w : World} {b n : Nat} {u : Value} {l k : List UInt8} (h : w.ownsRow b 5 1 u n (byL l ++ byL k)) (hn : n = l.length + k.length) : ByR w b u (l ++ k) := by
  unfold ByR
  rw [byL_app, List.length_append, ← hn]; exact h
theorem byte_idx (h : Nat) (hh : h < 16) (k : IntKind) (W : World) :
    (Instr.index 9 (.string ⟨#[48, 49, 50, 51, 52, 53, 54, 55, 56, 57, 97, 98, 99, 100, 101, 102]⟩) (.int k (h : Int))).run Tryz.prog W = .ok (.int .u8 ((hexN h).toNat : Int)) W := by
  have : ∀ h : Fin 16, (Instr.index 9 (.string ⟨#[48, 49, 50, 51, 52, 53, 54, 55, 56, 57, 97, 98, 99, 100, 101, 102]⟩) (.int k ((h : Nat) : Int))).run Tryz.prog W = .ok (.int .u8 ((hexN h).toNat : Int)) W := by
    intro h
    obtain ⟨h, hh⟩ := h
    match h, hh with
    | 0, _ => go_simp; rfl
    | 1, _ => go_simp; rfl
    | 2, _ => go_simp; rfl
    | 3, _ => go_simp; rfl
    | 4, _ => go_simp; rfl
    | 5, _ => go_simp; rfl
    | 6, _ => go_simp; rfl
    | 7, _ => go_simp; rfl
    | 8, _ => go_simp; rfl
    | 9, _ => go_simp; rfl
    | 10, _ => go_simp; rfl
    | 11, _ => go_simp; rfl
    | 12, _ => go_simp; rfl
    | 13, _ => go_simp; rfl
    | 14, _ => go_simp; rfl
    | 15, _ => go_simp; rfl
    | n + 16, h => omega
  exact this ⟨h, hh⟩
theorem byL_ints : ∀ l : List UInt8, byL l = l.map fun b => Value.int .u8 ((b.toNat : Nat) : Int) := fun _ => rfl

set_option maxRecDepth 20000 in
set_option maxHeartbeats 4000000 in
theorem quoted_run (S : ByteArray) (hS : S.size ≤ 166700000) (w : World) :
    Calls Tryz.prog 58 #[.string S] w fun e w' => e = .returned (.string (jqB S)) ∧ Below w.heap.size w w' := by
  obtain ⟨i0, hi0, hz0, hz1, hz2⟩ := info_parts infoB
  have HSH := hide fun c W => jshort_run c W
  obtain ⟨N, hN⟩ : ∃ n, n = S.size := ⟨_, rfl⟩
  have HNN := Lib.hid hN
  rw [← hN] at hS
  have HLE := Lib.hid (show S.data.toList.length = S.size from Array.length_toList)
  clear hN
  go_enter Tryz.func58, Tryz.ntmps58
  go_upto_region 2 with fail
  have HR0 := hide (show ByR (w.alloc (.cells #[.int .u8 34] 5)) w.heap.size (.slice (some ⟨w.heap.size, 0, none⟩) 1 1) (34 :: jqS (S.data.toList.take 0)) from by
    have h0 : (w.alloc (.cells #[.int .u8 34] 5)).ownsRow w.heap.size 5 1 (.slice (some ⟨w.heap.size, 0, none⟩) 1 1) 1 (byL [34]) :=
      ⟨rfl, .inr ⟨w.heap.size, 1, #[Value.int .u8 34], rfl, Nat.le_refl _, heap_alloc_new w _, by omega, by simp [maxLen], rfl, rfl⟩⟩
    exact h0)
  have HB0 := hide ((Below.refl w.heap.size w).alloc (Nat.le_refl _) (.cells #[.int .u8 34] 5))
  obtain ⟨w0, hw0⟩ : ∃ W, W = w.alloc (.cells #[.int .u8 34] 5) := ⟨_, rfl⟩
  rw [← hw0] at HR0 HB0 ⊢
  clear hw0
  go_wp2_with fail
  rw [← HNN.out]
  go_loopw [3, 11] (fun uv iv wr => ∃ i : Nat, iv = .int .i64 i ∧ i ≤ N ∧ Hid (Below w.heap.size w wr) ∧ Hid (ByR wr w.heap.size uv (34 :: jqS (S.data.toList.take i)))) (fun _ iv _ => N - (intOf iv).toNat)
  case atStart => exact ⟨0, rfl, Nat.zero_le _, HB0, HR0⟩
  case round =>
    clear HB0 HR0
    obtain ⟨i, rfl, hi, hB, hO⟩ := hrel
    by_cases hlt : i < N
    · have hlt' : i < S.size := by rw [← HNN.out]; exact hlt
      obtain ⟨c, hc⟩ : ∃ c, c = S[i] := ⟨_, rfl⟩
      have hcl : S.data.toList[i]? = some c := by
        rw [hc, List.getElem?_eq_getElem (by rw [HLE.out]; exact hlt')]; rfl
      have HXX := hide (show 34 :: jqS (S.data.toList.take (i + 1)) = (34 :: jqS (S.data.toList.take i)) ++ jqL c.toNat by
        rw [List.take_add_one, hcl, jqS_append]; simp [jqS])
      have hLL : (34 :: jqS (S.data.toList.take i)).length ≤ 1 + 6 * i := by
        have := jqS_len (S.data.toList.take i)
        have h2 : (S.data.toList.take i).length ≤ i := by rw [List.length_take]; omega
        rw [List.length_cons]; omega
      obtain ⟨L, hL⟩ : ∃ L, L = 34 :: jqS (S.data.toList.take i) := ⟨_, rfl⟩
      rw [← hL] at HXX hLL hO
      have hS2 : S[i] = c := hc.symm
      obtain ⟨n, hn⟩ : ∃ n, n = c.toNat := ⟨_, rfl⟩
      have hn2 : n < 256 := by rw [hn]; exact c.toNat_lt
      rw [← hn] at HXX
      have HN1 := Lib.hid hn
      have hSH := HSH.out n
      obtain ⟨q, hq⟩ : ∃ q, q = jshN n := ⟨_, rfl⟩
      rw [← hq] at hSH
      have hq2 : q < 256 := by rw [hq]; exact jsh_lt n hn2
      have HQ := Lib.hid hq
      have HS1 := hide hSH
      have hbs := hB.out.size
      clear hq hc hcl hL hn hSH
      by_cases hq0 : q = 0
      · subst hq0
        rw [show decide ((0 : Nat) ≠ 0) = false from rfl] at HS1
        go_wp2_with fail
        rw [← HN1.out]
        go_wp2_with fail
        refine (HS1.out _).mono ?_; rintro e w1 ⟨rfl, rfl⟩
        by_cases h126 : n < 32 ∨ 126 < n
        · have HXL := hide (show jqL n = [92, 117, 48, 48, hexN (n / 16), hexN (n % 16)] by unfold jqL; rw [← HQ.out, if_neg (by simp), if_pos h126])
          obtain ⟨hi2, hhi⟩ : ∃ hi, hi = n / 16 := ⟨_, rfl⟩
          obtain ⟨lo, hlo⟩ : ∃ hi, hi = n % 16 := ⟨_, rfl⟩
          have e1 : (n : Int) / 16 = (hi2 : Int) := by omega
          have e2 : bits BinOp.and IntKind.u8 (n : Int) 15 = (lo : Int) := by rw [and15 n hn2, hlo]
          have l1 : hi2 < 16 := by omega
          have l2 : lo < 16 := by omega
          have hs1 := fun W => byte_idx hi2 l1 .u8 W
          have hs2 := fun W => byte_idx lo l2 .u8 W
          rw [← hhi, ← hlo] at HXL
          have hg : (decide ((n : Int) < 32) = true ∧ True) ∨ (decide ((n : Int) < 32) = false ∧ decide ((n : Int) > 126) = true) := by
            rcases h126 with h | h
            · exact .inl ⟨by simp; omega, trivial⟩
            · exact .inr ⟨by simp; omega, by simp; omega⟩
          clear hhi hlo h126
          rcases hg with ⟨g6, g7⟩ | ⟨g6, g7⟩
          all_goals
            go_upto_region 10 with fail
            refine region_two 8 (fun _ => True) (by kernel_rfl) (by kernel_rfl) trivial (fun hH => ?_)
            obtain ⟨wd, hwd⟩ : ∃ W, W = wr.drew := ⟨_, rfl⟩
            have HB1 := hide (show Below w.heap.size w wd by rw [hwd]; exact hB.out.drew)
            have HO1 := hide (show ByR wd w.heap.size u3 L by rw [hwd]; exact hO.out.below (Below.refl _ _).drew)
            have hbs1 := HB1.out.size
            rw [← hwd]
            clear hwd hB hO hbs
            simp only [List.take_succ_cons, List.take_zero]
            refine takeH (i := 0) (v := ?_) rfl (by kernel_rfl) (by kernel_rfl) (by kernel_rfl) (fun _ _ _ h => h) (Or.inl ⟨by rfl, ?_⟩) hH ?_
            rotate_left
            · (intro w hSw; (try dsimp only at hSw); go_simp; try with_reducible rfl)
            simp only [Act.put, List.setIfInBounds_toArray, List.set_cons_zero, List.set_cons_succ]
            refine takeH (i := 1) (v := ?_) rfl (by kernel_rfl) (by kernel_rfl) (by kernel_rfl) (fun _ _ _ h => h) (Or.inl ⟨by rfl, ?_⟩) hH ?_
            rotate_left
            · (intro w hSw; (try dsimp only at hSw); go_simp; try with_reducible rfl)
            simp only [Act.put, List.setIfInBounds_toArray, List.set_cons_zero, List.set_cons_succ]
            refine takeH (i := 2) (v := ?_) rfl (by kernel_rfl) (by kernel_rfl) (by kernel_rfl) (fun _ _ _ h => h) (Or.inl ⟨by rfl, ?_⟩) hH ?_
            rotate_left
            · (intro w hSw; (try dsimp only at hSw); go_simp; try with_reducible rfl)
            simp only [Act.put, List.setIfInBounds_toArray, List.set_cons_zero, List.set_cons_succ]
            refine takeH (i := 3) (v := ?_) rfl (by kernel_rfl) (by kernel_rfl) (by kernel_rfl) (fun _ _ _ h => h) (Or.inl ⟨by rfl, ?_⟩) hH ?_
            rotate_left
            · (intro w hSw; (try dsimp only at hSw); go_simp; try with_reducible rfl)
            simp only [Act.put, List.setIfInBounds_toArray, List.set_cons_zero, List.set_cons_succ]
            refine takeH (i := 4) (v := ?_) rfl (by kernel_rfl) (by kernel_rfl) (by kernel_rfl) (fun _ _ _ h => h) (Or.inl ⟨by rfl, ?_⟩) hH ?_
            rotate_left
            · (intro w hSw; (try dsimp only at hSw); go_simp; try with_reducible rfl)
            simp only [Act.put, List.setIfInBounds_toArray, List.set_cons_zero, List.set_cons_succ]
            refine takeH (i := 5) (v := ?_) rfl (by kernel_rfl) (by kernel_rfl) (by kernel_rfl) (fun _ _ _ h => h) (Or.inl ⟨by rfl, ?_⟩) hH ?_
            rotate_left
            · (intro w hSw; (try dsimp only at hSw); go_simp; try with_reducible rfl)
            simp only [Act.put, List.setIfInBounds_toArray, List.set_cons_zero, List.set_cons_succ]
            refine takeH (i := 6) (v := ?_) rfl (by kernel_rfl) (by kernel_rfl) (by kernel_rfl) (fun _ _ _ h => h) (Or.inl ⟨by rfl, ?_⟩) hH ?_
            rotate_left
            · (intro w hSw; (try dsimp only at hSw); go_simp; try with_reducible rfl)
            simp only [Act.put, List.setIfInBounds_toArray, List.set_cons_zero, List.set_cons_succ]
            refine oneH (i := 7) rfl (by kernel_rfl) (fun K hK => ?_)
            go_simp
            refine hK.out _ _ trivial (fun hH => ?_)
            clear hK K
            refine wpAnyH_done (by kernel_rfl) ?_ _
            unfold TailPost
            simp only [List.drop_succ_cons, List.drop_zero]
            clear hs1 hs2 hH
            go_wp2_with (at_builtin; refine wpList_append_all _ rfl (.tmp 33) (.tmp 40) _ rfl w.heap.size 5 i0 _ 1 1 Tryz.underlying73 hi0 hz0 hz1 hz2 rfl (by omega) u3 L.length (byL L) rfl (HO1.out.alloc _) (some ⟨wd.heap.size, 0, none⟩) 6 6 (byL [92, 117, 48, 48, hexN hi2, hexN lo]) rfl (by intro h; cases h) rfl (by intro ad' h; injection h with h; subst h; exact World.news_of_block (heap_alloc_new _ _)) (byL_one _) (by unfold maxLen; omega) (by omega) (by simp; omega) ?_)
            intro v5 w5 o1 o2
            have HB5 := hide (Below.grown (HB1.out.alloc hbs1 (.cells (byL [92, 117, 48, 48, hexN hi2, hexN lo]).toArray 5)) o2.out (Nat.le_trans hbs1 (by simp)) (fun k e => (HO1.out.lt k e).1))
            have HO5 := hide (show ByR w5 w.heap.size v5 (34 :: jqS (S.data.toList.take (i + 1))) by rw [HXX.out, HXL.out]; exact byR_app o1.out rfl)
            clear o1 o2 HO1 HB1
            go_wp2_with fail
            go_roundw
            case rel => exact ⟨i + 1, by go_num, by omega, HB5, HO5⟩
            case measure => simp [intOf]; omega
        · have HXL := hide (show jqL n = [UInt8.ofNat n] by unfold jqL; rw [← HQ.out, if_neg (by simp), if_neg h126])
          have g6 : decide ((n : Int) < 32) = false := by simp; omega
          have g7 : decide ((n : Int) > 126) = false := by simp; omega
          clear h126
          go_wp2_with (at_builtin; refine wpList_append_all _ rfl (.tmp 42) (.tmp 44) _ rfl w.heap.size 5 i0 _ 1 1 Tryz.underlying73 hi0 hz0 hz1 hz2 rfl (by omega) u3 L.length (byL L) rfl (hO.out.alloc _) (some ⟨wr.heap.size, 0, none⟩) 1 1 [.int .u8 (n : Int)] rfl (by intro h; cases h) rfl (by intro ad' h; injection h with h; subst h; exact World.news_of_block (heap_alloc_new _ _)) (by simp [Value.oneCell']) (by unfold maxLen; omega) (by omega) (by simp; omega) ?_)
          intro v5 w5 o1 o2
          have HB5 := hide (Below.grown (hB.out.alloc hbs (.cells [.int .u8 (n : Int)].toArray 5)) o2.out (Nat.le_trans hbs (by simp)) (fun k e => (hO.out.lt k e).1))
          have HO5 := hide (show ByR w5 w.heap.size v5 (34 :: jqS (S.data.toList.take (i + 1))) by
            rw [HXX.out, HXL.out]
            have e2 : [.int .u8 (n : Int)] = byL [UInt8.ofNat n] := by unfold byL; simp; omega
            rw [e2] at o1
            exact byR_app o1.out rfl)
          clear o1 o2 hO hB
          go_wp2_with fail
          go_roundw
          case rel => exact ⟨i + 1, by go_num, by omega, HB5, HO5⟩
          case measure => simp [intOf]; omega
      · have HXL := hide (show jqL n = [92, UInt8.ofNat q] by unfold jqL; rw [← HQ.out, if_pos hq0])
        rw [show decide (q ≠ 0) = true by simpa using hq0] at HS1
        go_wp2_with fail
        rw [← HN1.out]
        go_wp2_with fail
        refine (HS1.out _).mono ?_; rintro e w1 ⟨rfl, rfl⟩
        go_wp2_with (at_builtin; refine wpList_append_all _ rfl (.tmp 23) (.tmp 25) _ rfl w.heap.size 5 i0 _ 1 1 Tryz.underlying73 hi0 hz0 hz1 hz2 rfl (by omega) u3 L.length (byL L) rfl (hO.out.alloc _) (some ⟨wr.heap.size, 0, none⟩) 2 2 [.int .u8 92, .int .u8 (q : Int)] rfl (by intro h; cases h) rfl (by intro ad' h; injection h with h; subst h; exact World.news_of_block (heap_alloc_new _ _)) (by simp [Value.oneCell']) (by unfold maxLen; omega) (by omega) (by simp; omega) ?_)
        intro v5 w5 o1 o2
        have HB5 := hide (Below.grown (hB.out.alloc hbs (.cells [.int .u8 92, .int .u8 (q : Int)].toArray 5)) o2.out (Nat.le_trans hbs (by simp)) (fun k e => (hO.out.lt k e).1))
        have HO5 := hide (show ByR w5 w.heap.size v5 (34 :: jqS (S.data.toList.take (i + 1))) by
          rw [HXX.out, HXL.out]
          have e2 : [.int .u8 92, .int .u8 (q : Int)] = byL [92, UInt8.ofNat q] := by unfold byL; simp; omega
          rw [e2] at o1
          exact byR_app o1.out rfl)
        clear o1 o2 hO hB
        go_wp2_with fail
        go_roundw
        case rel => exact ⟨i + 1, by go_num, by omega, HB5, HO5⟩
        case measure => simp [intOf]; omega
    · obtain rfl : N = i := by omega
      have e3 : S.data.toList.take N = S.data.toList := by rw [HNN.out, ← HLE.out, List.take_length]
      have HO1 := hide (show ByR wr w.heap.size u3 (34 :: jqS S.data.toList) by have := hO.out; rw [e3] at this; exact this)
      have hLL : (34 :: jqS S.data.toList).length ≤ 1 + 6 * N := by
        have := jqS_len S.data.toList
        have h2 := HLE.out
        have h3 := HNN.out
        rw [List.length_cons]; omega
      obtain ⟨L, hL⟩ : ∃ L, L = 34 :: jqS S.data.toList := ⟨_, rfl⟩
      have HJ := hide (show jqB S = ⟨(L ++ [34]).toArray⟩ by rw [hL]; rfl)
      rw [← hL] at HO1 hLL
      have hbs := hB.out.size
      clear hL e3 hO hlt
      go_wp2_with (at_builtin; refine wpList_append_all _ rfl (.tmp 47) (.tmp 48) _ rfl w.heap.size 5 i0 _ 1 1 Tryz.underlying73 hi0 hz0 hz1 hz2 rfl (by omega) u3 L.length (byL L) rfl (HO1.out.alloc _) (some ⟨wr.heap.size, 0, none⟩) 1 1 [.int .u8 34] rfl (by intro h; cases h) rfl (by intro ad' h; injection h with h; subst h; exact World.news_of_block (heap_alloc_new _ _)) (by simp [Value.oneCell']) (by unfold maxLen; omega) (by omega) (by simp; omega) ?_)
      intro v5 w5 o1 o2
      have HB5 := hide (Below.grown (hB.out.alloc hbs (.cells #[.int .u8 34] 5)) o2.out (Nat.le_trans hbs (by simp)) (fun k e => (HO1.out.lt k e).1))
      have hcv := conv_row (show ByR w5 w.heap.size v5 (L ++ [34]) from byR_app o1.out rfl)
      clear o1 o2 HO1 hB
      go_wp2_with fail
      go_ret
      exact ⟨ret_str HJ.out.symm, HB5.out⟩
end Go.Proofs.YtmmbbndoimleaaaGreatDoor

/- The reference's reader in memory; fail, more, is, digit. -/
namespace Go.Proofs.YtmmbbndoimleaaaGreatDoor
open Go.RowKit

/-- The reader's block: the text, the place, the fault. -/
def Rdr (w : World) (g : Nat) (S : ByteArray) (i : Nat) (f : Flt) : Prop := Row w g 55 [.string S, .int .i64 i, .int .i64 f.1, .int .i64 f.2]
section
variable {w w1 : World} {g : Nat} {S : ByteArray} {i : Nat} {f : Flt}
theorem Rdr.lt (h : Rdr w g S i f) : g < w.heap.size := Row.lt h
theorem Rdr.below (h : Rdr w g S i f) (hb : Below w.heap.size w w1) : Rdr w1 g S i f := Row.below h hb
theorem Rdr.drewN (h : Rdr w g S i f) (n : Nat) : Rdr (w.drewN n) g S i f := h
theorem Rdr.cells (h : Rdr w g S i f) : w.cell? ⟨g, 0, none⟩ = some (.string S) ∧ w.cell? ⟨g, 1, none⟩ = some (.int .i64 i) ∧ w.cell? ⟨g, 2, none⟩ = some (.int .i64 f.1) ∧ w.cell? ⟨g, 3, none⟩ = some (.int .i64 f.2) := ⟨h.cell 0, h.cell 1, h.cell 2, h.cell 3⟩
theorem Rdr.free (h : Rdr w g S i f) : w.frozen? ⟨g, 1, none⟩ = false ∧ w.frozen? ⟨g, 2, none⟩ = false ∧ w.frozen? ⟨g, 3, none⟩ = false := ⟨h.frozen 1, h.frozen 2, h.frozen 3⟩
theorem Rdr.set_ (h : Rdr w g S i f) (j : Nat) : Rdr (w.setCell ⟨g, 1, none⟩ (.int .i64 j)) g S j f := Row.set_ h 1 (.int .i64 j)
theorem Rdr.flt (h : Rdr w g S i f) (e a : Int) : Rdr ((w.setCell ⟨g, 2, none⟩ (.int .i64 e)).setCell ⟨g, 3, none⟩ (.int .i64 a)) g S i (e, a) := Row.set_ (Row.set_ h 2 (.int .i64 e)) 3 (.int .i64 a)
theorem Rdr.other (h : Rdr w g S i f) {row : Option Nat} (hg : w.grownBy w1 row) (hr : some g ≠ row) : Rdr w1 g S i f := Row.grown h hg hr
end
/-- Where the reader stands. -/
theorem Rdr.at_ {w : World} {g : Nat} {S : ByteArray} {i : Nat} {f : Flt} (h : Rdr w g S i f) : atOf w g = i := by
  unfold atOf; rw [h.cells.2.1]; rfl
/-- A fault that stands is kept. -/
def keepF (f g : Flt) : Flt := if f.1 = 0 then g else f

set_option maxHeartbeats 1000000 in
theorem rfail_run (S : ByteArray) (g i : Nat) (f : Flt) (e a : Int) (w : World) (h : Rdr w g S i f) :
    Calls Tryz.prog 28 #[.pointer (some ⟨g, 0, none⟩), .int .i64 e, .int .i64 a] w fun r w' => r = .returned (.tuple #[]) ∧ Rdr w' g S i (keepF f (e, a)) ∧ Px g w w' := by
  obtain ⟨c0, c1, c2, c3⟩ := h.cells
  obtain ⟨f1, f2, f3⟩ := h.free
  have HP := hide h
  obtain ⟨f, b⟩ := f
  clear h
  unfold keepF
  by_cases hf : f = 0
  · subst hf
    go_enter Tryz.func28, Tryz.ntmps28
    go_wp2_with fail
    go_end0
    exact ⟨rfl, HP.out.flt e a, (Px.refl.set_ 2 _).set_ 3 _⟩
  · have d1 : (f == 0) = false := by simpa using hf
    go_enter Tryz.func28, Tryz.ntmps28
    go_wp2_with fail
    go_end0
    exact ⟨rfl, by first | exact HP.out | (rw [if_neg hf]; exact HP.out), Px.refl⟩
/-- Whether more stands. -/
def moreB (S : ByteArray) (i : Nat) (f : Flt) : Bool := f.1 == 0 && decide (i < S.size)
set_option maxHeartbeats 1000000 in
theorem more_run (S : ByteArray) (g i : Nat) (f : Flt) (w : World) (h : Rdr w g S i f) :
    Calls Tryz.prog 53 #[.pointer (some ⟨g, 0, none⟩)] w fun e w' => e = .returned (.bool (moreB S i f)) ∧ ∃ n, w' = w.drewN n := by
  obtain ⟨c0, c1, c2, c3⟩ := h.cells
  obtain ⟨f, b⟩ := f
  clear h
  unfold moreB
  by_cases hf : f = 0
  · subst hf
    by_cases hi : i < S.size
    · go_enter Tryz.func53, Tryz.ntmps53
      go_wp2_with fail
      go_quiet (fail)
      go_wp2_with fail
      go_ret
      exact ⟨ret_bool (by simp [hi]), _, rfl⟩
    · go_enter Tryz.func53, Tryz.ntmps53
      go_wp2_with fail
      go_quiet (fail)
      go_wp2_with fail
      go_ret
      exact ⟨ret_bool (by simp [hi]), _, rfl⟩
  · have d1 : (f == 0) = false := by simpa using hf
    go_enter Tryz.func53, Tryz.ntmps53
    go_wp2_with fail
    go_quiet (fail)
    go_wp2_with fail
    go_ret
    exact ⟨ret_bool (by simp [hf]), _, rfl⟩
/-- Whether this byte stands next. -/
def isB (S : ByteArray) (i c : Nat) (f : Flt) : Bool := f.1 == 0 && nx S i == c
set_option maxHeartbeats 1000000 in
theorem is_run (S : ByteArray) (g i c : Nat) (f : Flt) (w : World) (h : Rdr w g S i f) (hc : c ≠ 0) (hi : i ≤ 2000000000) :
    Calls Tryz.prog 47 #[.pointer (some ⟨g, 0, none⟩), .int .u8 c] w fun e w' => e = .returned (.bool (isB S i c f)) ∧ Rdr w' g S (if isB S i c f = true then i + 1 else i) f ∧ Px g w w' := by
  have HM := hide fun V (h : Rdr V g S i f) => more_run S g i f V h
  have HP := hide h
  have HPd := hide fun n => h.drewN n
  obtain ⟨m, hm⟩ : ∃ m, m = moreB S i f := ⟨_, rfl⟩
  rw [← hm] at HM
  obtain ⟨r, hr⟩ : ∃ r, r = isB S i c f := ⟨_, rfl⟩
  rw [← hr]
  have HR := Lib.hid hr
  clear hr h
  cases m with
  | false =>
    have HE := hide (show r = false by
      rw [HR.out]
      unfold moreB at hm
      unfold isB
      by_cases hf : f.1 = 0
      · have hi : ¬ i < S.size := by rw [hf] at hm; simpa using hm.symm
        rw [nx_past hi]
        have : ((0 : Nat) == c) = false := by simpa using fun e => hc e.symm
        rw [this]; simp
      · have : (f.1 == 0) = false := by simpa using hf
        rw [this]; rfl)
    clear hm HR
    have hre := HE.out
    subst hre
    clear HE
    go_enter Tryz.func47, Tryz.ntmps47
    go_wp2_with fail
    go_quiet ((go_at_call 53; exact Calls.quiet_of (HM.out _ (HPd.out _))))
    go_wp2_with fail
    go_ret
    exact ⟨rfl, HP.out.drewN _, Px.refl.drewN _⟩
  | true =>
    have hf : f.1 = 0 ∧ i < S.size := by unfold moreB at hm; simpa using hm.symm
    obtain ⟨hf, his⟩ := hf
    obtain ⟨x, hx⟩ : ∃ x, x = (S[i]).toNat := ⟨_, rfl⟩
    have hS2 : (S[i]).toNat = x := hx.symm
    have HX := hide (show nx S i = x by rw [hx]; exact nx_at his)
    clear hm hx
    by_cases hq : x = c
    · subst hq
      have HE := hide (show r = true by rw [HR.out]; unfold isB; rw [HX.out, hf]; simp)
      clear HR
      have hre := HE.out
      subst hre
      clear HE
      go_enter Tryz.func47, Tryz.ntmps47
      obtain ⟨c0, c1, c2, c3⟩ := HP.out.cells
      obtain ⟨f1, f2, f3⟩ := HP.out.free
      go_wp2_with fail
      go_quiet ((go_at_call 53; exact Calls.quiet_of (HM.out _ (HPd.out _))))
      go_wp2_with fail
      go_ret
      exact ⟨rfl, (HP.out.drewN _).set_ (i + 1), (Px.refl.drewN _).set_ 1 _⟩
    · have HE := hide (show r = false by rw [HR.out]; unfold isB; rw [HX.out, hf]; simpa using hq)
      have d1 : ((x : Int) != (c : Int)) = true := by simp; omega
      have d2 : ((x : Int) == (c : Int)) = false := by simp; omega
      clear HR
      have hre := HE.out
      subst hre
      clear HE
      go_enter Tryz.func47, Tryz.ntmps47
      obtain ⟨c0, c1, c2, c3⟩ := HP.out.cells
      go_wp2_with fail
      go_quiet ((go_at_call 53; exact Calls.quiet_of (HM.out _ (HPd.out _))))
      go_wp2_with fail
      go_ret
      exact ⟨rfl, HP.out.drewN _, Px.refl.drewN _⟩
end Go.Proofs.YtmmbbndoimleaaaGreatDoor

/- blanks, word, digit, hex of the reference's reader. -/
namespace Go.Proofs.YtmmbbndoimleaaaGreatDoor
open Go.RowKit

/-- What a call without results does to the reader. -/
def RU (g : Nat) (S : ByteArray) (w : World) (j : Nat) (f : Flt) (e : Ending) (w' : World) : Prop := e = .returned (.tuple #[]) ∧ Rdr w' g S j f ∧ Px g w w'
theorem is_yes (S : ByteArray) (g i c : Nat) (f : Flt) (w : World) (h : Rdr w g S i f) (hi : i ≤ 2000000000) (hc : c ≠ 0) (hf : f.1 = 0) (hn : nx S i = c) :
    Calls Tryz.prog 47 #[.pointer (some ⟨g, 0, none⟩), .int .u8 c] w fun e w' => e = .returned (.bool true) ∧ Rdr w' g S (i + 1) f ∧ Px g w w' := by
  have hb : isB S i c f = true := by unfold isB; rw [hf, hn]; simp
  have := is_run S g i c f w h hc hi
  rw [hb] at this
  exact this
theorem is_no (S : ByteArray) (g i c : Nat) (f : Flt) (w : World) (h : Rdr w g S i f) (hi : i ≤ 2000000000) (hc : c ≠ 0) (hn : f.1 ≠ 0 ∨ nx S i ≠ c) :
    Calls Tryz.prog 47 #[.pointer (some ⟨g, 0, none⟩), .int .u8 c] w fun e w' => e = .returned (.bool false) ∧ Rdr w' g S i f ∧ Px g w w' := by
  have hb : isB S i c f = false := by
    unfold isB
    rcases hn with h | h
    · have : (f.1 == 0) = false := by simpa using h
      rw [this]; rfl
    · have : (nx S i == c) = false := by simpa using h
      rw [this]; simp
  have := is_run S g i c f w h hc hi
  rw [hb] at this
  exact this
/-- The blanks that are skipped. -/
def blkR (S : ByteArray) (i : Nat) (f : Flt) : Nat := if f.1 = 0 then blk S i else i
theorem blk_kinds {c : Nat} (h : blkB c = true) : c = 32 ∨ c = 9 ∨ c = 10 ∨ c = 13 := by
  unfold blkB at h
  simp at h
  omega
theorem blk_not {c : Nat} (h : blkB c = false) : c ≠ 32 ∧ c ≠ 9 ∧ c ≠ 10 ∧ c ≠ 13 := by
  unfold blkB at h
  simp at h
  omega

set_option maxRecDepth 20000 in
set_option maxHeartbeats 1000000 in
theorem rblanks_run (S : ByteArray) (g i : Nat) (f : Flt) (w : World) (h : Rdr w g S i f) (hS : S.size ≤ 1000000000) (hi : i ≤ S.size) :
    Calls Tryz.prog 46 #[.pointer (some ⟨g, 0, none⟩)] w (RU g S w (blkR S i f) f) := by
  obtain ⟨B, hB⟩ : ∃ b, b = blkR S i f := ⟨_, rfl⟩
  rw [← hB]
  have HY := hide fun c k V (h : Rdr V g S k f) (hk : k ≤ S.size) => is_yes S g k c f V h (by omega)
  have HN := hide fun c k V (h : Rdr V g S k f) (hk : k ≤ S.size) => is_no S g k c f V h (by omega)
  have H0 := hide (show Rdr w g S i f ∧ Px g w w ∧ B = blkR S i f from ⟨h, Px.refl, hB⟩)
  clear h hB
  go_enter Tryz.func46, Tryz.ntmps46
  go_wp2_with fail
  go_loopw [] (fun wr => ∃ k : Nat, k ≤ S.size ∧ Hid (Rdr wr g S k f ∧ Px g w wr ∧ B = blkR S k f)) (fun wr => S.size - atOf wr g)
  case atStart => exact ⟨i, hi, H0⟩
  case round =>
    clear H0
    obtain ⟨k, hk, hR⟩ := hrel
    have HAT := hide (show atOf wr g = k from hR.out.1.at_)
    by_cases hg : f.1 = 0 ∧ blkB (nx S k) = true
    · obtain ⟨hf, hb⟩ := hg
      have hlt : k < S.size := nx_in fun e => by rw [e] at hb; cases hb
      have HNX := hide (show B = blkR S (k + 1) f by
        rw [hR.out.2.2]; unfold blkR; rw [if_pos hf, if_pos hf]; exact run_step rfl hb)
      have HF := Lib.hid hf
      rcases blk_kinds hb with e | e | e | e
      · have HE := Lib.hid e
        clear hb e hf
        go_wp2_with fail
        refine (HY.out 32 k _ hR.out.1 hk (by decide) HF.out HE.out).mono ?_; rintro e w1 ⟨rfl, hr, hx⟩
        have HR1 := hide hr
        have HX1 := hide (hR.out.2.1.trans hx)
        clear hr hx hR
        go_wp2_with fail
        go_roundw
        case rel => exact ⟨k + 1, hlt, hide ⟨HR1.out, HX1.out, HNX.out⟩⟩
        case measure => rw [HR1.out.at_, HAT.out]; omega
      · have HE := Lib.hid e
        clear hb e hf
        go_wp2_with fail
        refine (HN.out 32 k _ hR.out.1 hk (by decide) (.inr (by rw [HE.out]; decide))).mono ?_; rintro e w1 ⟨rfl, hr, hx⟩
        go_wp2_with fail
        refine (HY.out 9 k _ hr hk (by decide) HF.out HE.out).mono ?_; rintro e w2 ⟨rfl, hr2, hx2⟩
        have HR1 := hide hr2
        have HX1 := hide ((hR.out.2.1.trans hx).trans hx2)
        clear hr hx hr2 hx2 hR
        go_wp2_with fail
        go_roundw
        case rel => exact ⟨k + 1, hlt, hide ⟨HR1.out, HX1.out, HNX.out⟩⟩
        case measure => rw [HR1.out.at_, HAT.out]; omega
      · have HE := Lib.hid e
        clear hb e hf
        go_wp2_with fail
        refine (HN.out 32 k _ hR.out.1 hk (by decide) (.inr (by rw [HE.out]; decide))).mono ?_; rintro e w1 ⟨rfl, hr, hx⟩
        go_wp2_with fail
        refine (HN.out 9 k _ hr hk (by decide) (.inr (by rw [HE.out]; decide))).mono ?_; rintro e w2 ⟨rfl, hr2, hx2⟩
        go_wp2_with fail
        refine (HY.out 10 k _ hr2 hk (by decide) HF.out HE.out).mono ?_; rintro e w3 ⟨rfl, hr3, hx3⟩
        have HR1 := hide hr3
        have HX1 := hide (((hR.out.2.1.trans hx).trans hx2).trans hx3)
        clear hr hx hr2 hx2 hr3 hx3 hR
        go_wp2_with fail
        go_roundw
        case rel => exact ⟨k + 1, hlt, hide ⟨HR1.out, HX1.out, HNX.out⟩⟩
        case measure => rw [HR1.out.at_, HAT.out]; omega
      · have HE := Lib.hid e
        clear hb e hf
        go_wp2_with fail
        refine (HN.out 32 k _ hR.out.1 hk (by decide) (.inr (by rw [HE.out]; decide))).mono ?_; rintro e w1 ⟨rfl, hr, hx⟩
        go_wp2_with fail
        refine (HN.out 9 k _ hr hk (by decide) (.inr (by rw [HE.out]; decide))).mono ?_; rintro e w2 ⟨rfl, hr2, hx2⟩
        go_wp2_with fail
        refine (HN.out 10 k _ hr2 hk (by decide) (.inr (by rw [HE.out]; decide))).mono ?_; rintro e w3 ⟨rfl, hr3, hx3⟩
        go_wp2_with fail
        refine (HY.out 13 k _ hr3 hk (by decide) HF.out HE.out).mono ?_; rintro e w4 ⟨rfl, hr4, hx4⟩
        have HR1 := hide hr4
        have HX1 := hide ((((hR.out.2.1.trans hx).trans hx2).trans hx3).trans hx4)
        clear hr hx hr2 hx2 hr3 hx3 hr4 hx4 hR
        go_wp2_with fail
        go_roundw
        case rel => exact ⟨k + 1, hlt, hide ⟨HR1.out, HX1.out, HNX.out⟩⟩
        case measure => rw [HR1.out.at_, HAT.out]; omega
    · have HNX := hide (show B = k by
        rw [hR.out.2.2]; unfold blkR
        by_cases hf : f.1 = 0
        · rw [if_pos hf]
          exact run_stop (by
            cases hb : blkB (nx S k) with
            | true => exact absurd ⟨hf, hb⟩ hg
            | false => rfl)
        · rw [if_neg hf])
      have HQ := hide (show ∀ c, c = 32 ∨ c = 9 ∨ c = 10 ∨ c = 13 → (f.1 ≠ 0 ∨ nx S k ≠ c) from fun c hc => by
        by_cases hf : f.1 = 0
        · right
          intro e
          exact hg ⟨hf, by rw [e]; rcases hc with rfl | rfl | rfl | rfl <;> rfl⟩
        · exact .inl hf)
      clear hg
      go_wp2_with fail
      refine (HN.out 32 k _ hR.out.1 hk (by decide) (HQ.out _ (by omega))).mono ?_; rintro e w1 ⟨rfl, hr, hx⟩
      go_wp2_with fail
      refine (HN.out 9 k _ hr hk (by decide) (HQ.out _ (by omega))).mono ?_; rintro e w2 ⟨rfl, hr2, hx2⟩
      go_wp2_with fail
      refine (HN.out 10 k _ hr2 hk (by decide) (HQ.out _ (by omega))).mono ?_; rintro e w3 ⟨rfl, hr3, hx3⟩
      go_wp2_with fail
      refine (HN.out 13 k _ hr3 hk (by decide) (HQ.out _ (by omega))).mono ?_; rintro e w4 ⟨rfl, hr4, hx4⟩
      have HR1 := hide hr4
      have HX1 := hide ((((hR.out.2.1.trans hx).trans hx2).trans hx3).trans hx4)
      clear hr hx hr2 hx2 hr3 hx3 hr4 hx4 hR
      go_wp2_with fail
      go_end0
      rw [HNX.out]
      exact ⟨rfl, HR1.out, HX1.out⟩
end Go.Proofs.YtmmbbndoimleaaaGreatDoor

/- word, digit, hex of the reference's reader. -/
namespace Go.Proofs.YtmmbbndoimleaaaGreatDoor
open Go.RowKit

/-- A call that goes on at a place, or leaves a fault. -/
def RW (g : Nat) (S : ByteArray) (w : World) (r : Except Flt Nat) : Ending → World → Prop :=
  match r with
  | .ok j => RU g S w j (0, 0)
  | .error f => fun e w' => ∃ k, k ≤ S.size ∧ RU g S w k f e w'
/-- Where a word is read: so far so good, or a fault stands. -/
def WSt (g : Nat) (S : ByteArray) (i : Nat) (r : Except Flt Nat) (l : List UInt8) (W : World) : Prop :=
  (Rdr W g S i (0, 0) ∧ i ≤ S.size ∧ r = wordF S l i) ∨ ∃ k f, k ≤ S.size ∧ r = .error f ∧ f.1 ≠ 0 ∧ Rdr W g S k f

set_option maxRecDepth 20000 in
set_option maxHeartbeats 1000000 in
theorem rword_run (S W : ByteArray) (g i : Nat) (w : World) (h : Rdr w g S i (0, 0)) (hi : i ≤ S.size) (hS : S.size ≤ 1000000000) (hW : W.size ≤ 1000) (hz : ∀ c ∈ W.data.toList, c.toNat ≠ 0) :
    Calls Tryz.prog 48 #[.pointer (some ⟨g, 0, none⟩), .string W] w (RW g S w (wordF S W.data.toList i)) := by
  obtain ⟨r, hr⟩ : ∃ r, r = wordF S W.data.toList i := ⟨_, rfl⟩
  rw [← hr]
  have HY := hide fun c k f V (h : Rdr V g S k f) (hk : k ≤ S.size) => is_yes S g k c f V h (by omega)
  have HN := hide fun c k f V (h : Rdr V g S k f) (hk : k ≤ S.size) => is_no S g k c f V h (by omega)
  have HF := hide fun (k : Nat) f V (h : Rdr V g S k f) => rfail_run S g k f 19 (k : Nat) V h
  have HZ := hide hz
  have H0 := hide (show WSt g S (i + 0) r (W.data.toList.drop 0) w ∧ Px g w w from ⟨.inl ⟨h, hi, hr⟩, Px.refl⟩)
  obtain ⟨N, hN⟩ : ∃ n, n = W.size := ⟨_, rfl⟩
  have HNN := Lib.hid hN
  rw [← hN] at hW
  have HLE := Lib.hid (show W.data.toList.length = W.size from Array.length_toList)
  clear h hr hN hz
  go_enter Tryz.func48, Tryz.ntmps48
  go_wp2_with fail
  go_loopw [4] (fun mv wr => ∃ m : Nat, mv = .int .i64 m ∧ m ≤ N ∧ Hid (WSt g S (i + m) r (W.data.toList.drop m) wr ∧ Px g w wr)) (fun mv _ => N - (intOf mv).toNat)
  case atStart => exact ⟨0, rfl, Nat.zero_le _, H0⟩
  case round =>
    clear H0
    obtain ⟨m, rfl, hm, hR⟩ := hrel
    have e0 : W.size = N := HNN.out.symm
    by_cases hlt : m < N
    · have hlt' : m < W.size := by omega
      obtain ⟨c, hc⟩ : ∃ c, c = W[m] := ⟨_, rfl⟩
      have hcl : W.data.toList[m]? = some c := by
        rw [hc, List.getElem?_eq_getElem (by rw [HLE.out]; exact hlt')]; rfl
      have hcz : c.toNat ≠ 0 := HZ.out c (List.mem_of_getElem? hcl)
      have HD := Lib.hid (drop_cons hcl)
      have hW2 : W[m] = c := hc.symm
      obtain ⟨y, hy⟩ : ∃ y, y = c.toNat := ⟨_, rfl⟩
      rw [← hy] at hcz
      have HYC := Lib.hid hy
      clear hc hcl hy
      rcases hR.out.1 with ⟨h1, h2, h3⟩ | ⟨k, f, h1, h2, h3, h4⟩
      · have HRR := hide (show r = if nx S (i + m) = y then wordF S (W.data.toList.drop (m + 1)) (i + m + 1) else .error (19, ((i + m : Nat) : Int)) by
          rw [h3, HD.out, wordF, HYC.out])
        have HP1 := hide h1
        have HX1 := hide hR.out.2
        clear h1 h3 hR
        by_cases hq : nx S (i + m) = y
        · have hlt2 : i + m < S.size := nx_in (by rw [hq]; exact hcz)
          have HRN := hide (show r = wordF S (W.data.toList.drop (m + 1)) (i + (m + 1)) by rw [HRR.out, if_pos hq]; first | done | rfl)
          have HQ := Lib.hid hq
          clear hq HRR
          go_wp2_with fail
          rw [← HYC.out]
          go_wp2_with fail
          refine (HY.out y (i + m) _ _ HP1.out h2 hcz rfl HQ.out).mono ?_; rintro e w1 ⟨rfl, hr1, hx1⟩
          have HR2 := hide hr1
          have HX2 := hide (HX1.out.trans hx1)
          clear hr1 hx1 HP1 HX1
          go_wp2_with fail
          go_roundw
          case rel => exact ⟨m + 1, by go_num, hlt, hide ⟨.inl ⟨HR2.out, by omega, HRN.out⟩, HX2.out⟩⟩
          case measure => simp [intOf]; omega
        · have HRN := hide (show r = .error (19, ((i + m : Nat) : Int)) by rw [HRR.out, if_neg hq])
          have HQ := hide hq
          clear hq HRR
          go_wp2_with fail
          rw [← HYC.out]
          go_wp2_with fail
          refine (HN.out y (i + m) _ _ HP1.out h2 hcz (.inr HQ.out)).mono ?_; rintro e w1 ⟨rfl, hr1, hx1⟩
          have HR2 := hide hr1
          have HX2 := hide (HX1.out.trans hx1)
          obtain ⟨c0, c1, c2, c3⟩ := hr1.cells
          clear hr1 hx1 HP1 HX1
          go_wp2_with fail
          refine (HF.out (i + m) _ _ HR2.out).mono ?_; rintro e w2 ⟨rfl, hr2, hx2⟩
          have HR3 := hide hr2
          have HX3 := hide (HX2.out.trans hx2)
          clear hr2 hx2 HR2 HX2 c0 c1 c2 c3
          go_wp2_with fail
          go_roundw
          case rel => exact ⟨m + 1, by go_num, hlt, hide ⟨.inr ⟨i + m, _, h2, HRN.out, (show (19 : Int) ≠ 0 by decide), HR3.out⟩, HX3.out⟩⟩
          case measure => simp [intOf]; omega
      · have HP1 := hide h4
        have HRN := hide (And.intro h2 h3)
        have HX1 := hide hR.out.2
        clear h2 h3 h4 hR
        go_wp2_with fail
        rw [← HYC.out]
        go_wp2_with fail
        refine (HN.out y k _ _ HP1.out h1 hcz (.inl HRN.out.2)).mono ?_; rintro e w1 ⟨rfl, hr1, hx1⟩
        have HR2 := hide hr1
        have HX2 := hide (HX1.out.trans hx1)
        obtain ⟨c0, c1, c2, c3⟩ := hr1.cells
        clear hr1 hx1 HP1 HX1
        go_wp2_with fail
        refine (HF.out k _ _ HR2.out).mono ?_; rintro e w2 ⟨rfl, hr2, hx2⟩
        have HR3 := hide (show Rdr w2 g S k f by unfold keepF at hr2; rw [if_neg HRN.out.2] at hr2; exact hr2)
        have HX3 := hide (HX2.out.trans hx2)
        clear hr2 hx2 HR2 HX2 c0 c1 c2 c3
        go_wp2_with fail
        go_roundw
        case rel => exact ⟨m + 1, by go_num, hlt, hide ⟨.inr ⟨k, f, h1, HRN.out.1, HRN.out.2, HR3.out⟩, HX3.out⟩⟩
        case measure => simp [intOf]; omega
    · have HDN := hide (show W.data.toList.drop m = [] from List.drop_eq_nil_of_le (by rw [HLE.out, ← HNN.out]; omega))
      go_wp2_with fail
      go_end0
      rcases hR.out.1 with ⟨h1, h2, h3⟩ | ⟨k, f, h1, h2, h3, h4⟩
      · rw [HDN.out] at h3
        rw [show r = .ok (i + m) from h3]
        exact ⟨rfl, h1, hR.out.2⟩
      · rw [h2]
        exact ⟨k, h1, rfl, h4, hR.out.2⟩
set_option maxHeartbeats 1000000 in
theorem rdigit_run (S : ByteArray) (g i : Nat) (f : Flt) (w : World) (h : Rdr w g S i f) :
    Calls Tryz.prog 52 #[.pointer (some ⟨g, 0, none⟩)] w fun e w' => e = .returned (.bool (f.1 == 0 && digB (nx S i))) ∧ ∃ n, w' = w.drewN n := by
  have HM := hide fun V (h : Rdr V g S i f) => more_run S g i f V h
  have HPd := hide fun n => h.drewN n
  obtain ⟨c0, c1, c2, c3⟩ := h.cells
  by_cases hm : f.1 = 0 ∧ i < S.size
  · obtain ⟨hf, hi⟩ := hm
    have em : moreB S i f = true := by unfold moreB; rw [hf]; simpa using hi
    rw [em] at HM
    obtain ⟨x, hx⟩ : ∃ x, x = (S[i]).toNat := ⟨_, rfl⟩
    have hS2 : (S[i]).toNat = x := hx.symm
    have e : nx S i = x := by rw [hx]; exact nx_at hi
    rw [e, hf]
    have HB := hide (show digB x = (decide (48 ≤ x) && decide (x ≤ 57)) from rfl)
    obtain ⟨b, hb⟩ : ∃ b, b = digB x := ⟨_, rfl⟩
    rw [← hb] at HB ⊢
    clear hx e em hf hb h
    by_cases h1 : 48 ≤ x
    · have d1 : decide ((48 : Int) ≤ (x : Int)) = true := by simp; omega
      by_cases h2 : x ≤ 57
      · have d2 : decide ((x : Int) ≤ 57) = true := by simp; omega
        have hb : b = true := by rw [HB.out]; simp; omega
        subst hb
        go_enter Tryz.func52, Tryz.ntmps52
        go_wp2_with fail
        go_quiet ((go_at_call 53; exact Calls.quiet_of (HM.out _ (HPd.out _))))
        go_wp2_with fail
        go_ret
        exact ⟨rfl, _, rfl⟩
      · have d2 : decide ((x : Int) ≤ 57) = false := by simp; omega
        have hb : b = false := by rw [HB.out]; simp; omega
        subst hb
        go_enter Tryz.func52, Tryz.ntmps52
        go_wp2_with fail
        go_quiet ((go_at_call 53; exact Calls.quiet_of (HM.out _ (HPd.out _))))
        go_wp2_with fail
        go_ret
        exact ⟨rfl, _, rfl⟩
    · have d1 : decide ((48 : Int) ≤ (x : Int)) = false := by simp; omega
      have hb : b = false := by rw [HB.out]; simp; omega
      subst hb
      go_enter Tryz.func52, Tryz.ntmps52
      go_wp2_with fail
      go_quiet ((go_at_call 53; exact Calls.quiet_of (HM.out _ (HPd.out _))))
      go_wp2_with fail
      go_ret
      exact ⟨rfl, _, rfl⟩
  · have em : moreB S i f = false := by
      unfold moreB
      rw [Bool.and_eq_false_iff]
      by_cases hf : f.1 = 0
      · right; simp; omega
      · left; simpa using hf
    have er : (f.1 == 0 && digB (nx S i)) = false := by
      by_cases hf : f.1 = 0
      · rw [nx_past (by omega), hf]; rfl
      · have : (f.1 == 0) = false := by simpa using hf
        rw [this]; rfl
    rw [em] at HM
    rw [er]
    clear em er hm h
    go_enter Tryz.func52, Tryz.ntmps52
    go_wp2_with fail
    go_quiet ((go_at_call 53; exact Calls.quiet_of (HM.out _ (HPd.out _))))
    go_wp2_with fail
    go_ret
    exact ⟨rfl, _, rfl⟩
end Go.Proofs.YtmmbbndoimleaaaGreatDoor
