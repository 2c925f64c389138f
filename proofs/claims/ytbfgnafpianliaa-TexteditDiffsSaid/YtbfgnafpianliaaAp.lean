/- Apply and its reference. -/
import Derived.Test.YtbfgnafpianliaaCp
namespace Go.Proofs.Ytbfgnafpianliaa
open Go.RowKit

theorem size_ge {n : Int} : ∀ {es : List Ed} {p x : Int}, Chain n p es → x - (n - p) ≤ sizeP x es
  | [], p, x, h => by simp only [Chain] at h; simp only [sizeP]; omega
  | e :: l, p, x, h => by
    obtain ⟨h1, h2, h3, h4⟩ := h
    have := size_ge (x := x + chg e) h4
    simp only [sizeP]
    unfold chg at this ⊢
    omega
theorem sizeP_add : ∀ (es : List Ed) (x y : Int), sizeP (x + y) es = sizeP x es + y
  | [], _, _ => rfl
  | e :: l, x, y => by
    simp only [sizeP]
    rw [show x + y + chg e = (x + chg e) + y by omega, sizeP_add l]

theorem info5 : (Try.prog.info? 5).map (fun i => (i.zero, i.size, i.bytes)) = some (some (.int .u8 0), 1, 1) := by kernel_rfl
theorem size5 : (Try.prog.info? 5).map (·.size) = some 1 := by kernel_rfl

set_option maxHeartbeats 1000000 in
theorem Apply_run (s : ByteArray) (v : Value) (es : List Ed) (w : World) (h : Eds w w.heap.size v es) (hF : Fit es) (hs : s.size ≤ 1000000000000) :
    Calls Try.prog 13 #[.string s, v] w fun e w' => e = .returned (.tuple #[.string (applyP s es).1, .int .i64 (applyP s es).2]) ∧ Below w.heap.size w w' := by
  have hC := Check_run s v es w h (by unfold maxLen; omega)
  obtain ⟨A, c, rfl, hc1, hc2, hels⟩ := h
  have hm := maxLen_le hc2
  obtain ⟨hF1, hF2⟩ := hF
  have HF := Lib.hid hF2
  have HE := Lib.hid hels; clear hels hc2 hF2
  obtain ⟨n, hn⟩ : ∃ n, n = es.length := ⟨_, rfl⟩
  obtain ⟨z, hz⟩ : ∃ n, n = s.size := ⟨_, rfl⟩
  rw [← hn] at hc1 hC hF1 ⊢
  have HN := Lib.hid hn
  obtain ⟨r, hr⟩ : ∃ r, r = applyP s es := ⟨_, rfl⟩
  rw [← hr]
  obtain ⟨k0, hk0⟩ : ∃ k, k = checkP s.size es := ⟨_, rfl⟩
  rw [← hk0] at hC
  have HC := hide hC
  have HR := Lib.hid hr
  have HK := Lib.hid hk0
  clear hn hr hC hk0
  by_cases hk : k0 = 0
  · subst hk
    have hch : Chain s.size 0 es := chain_of_check (by omega) HK.out.symm
    have HCh := Lib.hid hch
    clear hch
    go_enter Try.func13, Try.ntmps13
    go_wp2_with (go_at_call 15; refine (unhide HC).mono ?_; rintro e wp ⟨rfl, hBp⟩)
    go_loopw [7, 9, 25] (fun xv e i wr => ∃ (k : Nat) (X p : Int), i = .int .i64 k ∧ xv = .int .i64 X ∧ k ≤ n ∧ 0 ≤ p ∧ p ≤ s.size ∧ s.size - p ≤ X ∧ X ≤ s.size + 1000000000 * (k : Int) ∧ Hid (sizeP s.size es = sizeP X (es.drop k)) ∧ Hid (Chain s.size p (es.drop k)) ∧ Hid (Below w.heap.size w wr)) (fun _ _ i _ => n - (intOf i).toNat)
    case atStart => exact ⟨0, s.size, 0, rfl, rfl, by omega, by omega, by omega, by omega, by omega, by rfl, HCh, hide hBp⟩
    case round =>
      clear hBp
      obtain ⟨k, X, p, rfl, rfl, hk2, hp0, hp1, hX1, hX2, hI, hL, hB⟩ := hrel
      by_cases hlt : k < n
      · have hn := HN.out
        have hlt' : k < es.length := by omega
        obtain ⟨ad, rfl, hb, hf, ht, hx⟩ := HE.out.get (Same.of_below hB.out) hlt'
        have hq := hI.out
        have hL' := hL.out
        have hF : es[k].tx.size ≤ 1000000000 := HF.out _ (List.getElem_mem hlt')
        rw [drop_at hlt', sizeP] at hq
        rw [drop_at hlt'] at hL'
        obtain ⟨l1, l2, l3, l4⟩ := hL'
        have HL := Lib.hid l4
        have HQ := Lib.hid hq
        clear hI hL l4 hq
        have e1 : IntKind.i64.wrap (es[k].to - es[k].fr) = es[k].to - es[k].fr := IntWalk.i64_in _ (by omega)
        have e2 : IntKind.i64.wrap ((es[k].tx.size : Int) - (es[k].to - es[k].fr)) = (es[k].tx.size : Int) - (es[k].to - es[k].fr) := IntWalk.i64_in _ (by omega)
        have e3 : IntKind.i64.wrap (X + ((es[k].tx.size : Int) - (es[k].to - es[k].fr))) = X + ((es[k].tx.size : Int) - (es[k].to - es[k].fr)) := IntWalk.i64_in _ (by omega)
        clear hn
        go_wp2
        go_roundw
        case rel => exact ⟨k + 1, _, es[k].to, by go_num, rfl, by omega, by omega, by omega, by omega, by omega, HQ.out, HL, hide (below_al hB.out _)⟩
        case measure => simp [intOf]; omega
      · have hq : sizeP s.size es = X := by
          rw [hI.out, List.drop_eq_nil_of_le (by have := HN.out; omega), sizeP]
        have HS := Lib.hid hq
        clear hI hL hq
        by_cases hX : 65536 < X
        · have hX' : decide (X > 65536) = true := by simpa using hX
          have hrr : r = (ByteArray.empty, 2) := by
            rw [HR.out, applyP, if_neg (by rw [← HK.out]; simp), if_pos (by rw [HS.out]; exact hX)]
          have HRR := Lib.hid hrr; clear hrr
          go_wp2
          go_ret2
          exact ⟨by rw [HRR.out]; rfl, hB.out⟩
        · have hX' : decide (X > 65536) = false := by simpa using hX
          have hrr : r = (joinP s ByteArray.empty 0 es, 0) := by
            rw [HR.out, applyP, if_neg (by rw [← HK.out]; simp), if_neg (by rw [HS.out]; exact hX)]
          have HRR := Lib.hid hrr; clear hrr
          obtain ⟨N, rfl⟩ := ofNat_of (show 0 ≤ X by omega)
          have hmk := fun W => run_make_row' (P := Try.prog) 43 5 (.int .u8 0) 1 Try.underlying43 info5 rfl .i64 .i64 N (by omega) (by omega) W
          obtain ⟨wq, hwq⟩ : ∃ wq, wq = wr := ⟨_, rfl⟩
          subst hwq
          go_wp2
          clear hmk
          obtain ⟨g, hg⟩ : ∃ g, g = wq.heap.size := ⟨_, rfl⟩
          obtain ⟨w2, hw2⟩ : ∃ x, x = wq.alloc (.cells (madeCells #[.int .u8 0] N) 5) := ⟨_, rfl⟩
          rw [← hg, ← hw2]
          have HM := Lib.hid (show RowB w2 g 5 (List.replicate N 0) by rw [hg, hw2]; exact RowB.made wq 5 N)
          have HB2 := Lib.hid (show Below w.heap.size w w2 by rw [hw2]; exact below_al hB.out _)
          have HG := Lib.hid (show w.heap.size ≤ g by rw [hg]; exact hB.out.size)
          clear hB hw2 hg
          go_loopw [11, 12, 14, 47] (fun av pv e i wr => ∃ (k p : Nat) (out : ByteArray), i = .int .i64 k ∧ av = .int .i64 (out.size : Int) ∧ pv = .int .i64 (p : Int) ∧ k ≤ n ∧ 
            Hid (∃ L, RowB wr g 5 L ∧ L.length = N ∧ L.take out.size = out.data.toList) ∧ Hid (joinP s ByteArray.empty 0 es = joinP s out p (es.drop k)) ∧ Hid (sizeP (out.size + (s.size - p)) (es.drop k) = N) ∧ Hid (Chain s.size p (es.drop k)) ∧ Hid (Below w.heap.size w wr)) (fun _ _ _ i _ => n - (intOf i).toNat)
          case atStart => 
            refine ⟨0, 0, ByteArray.empty, rfl, rfl, rfl, by omega, hide ⟨_, HM.out, by simp, by simp⟩, by rfl, hide ?_, HCh, HB2⟩
            have := HS.out; simpa using this
          case round =>
            clear HM HB2 HCh HS
            obtain ⟨k, p, out, rfl, rfl, rfl, hk2, hJ, hI, hS, hL, hB⟩ := hrel
            by_cases hlt : k < n
            · have hn := HN.out
              have hlt' : k < es.length := by omega
              obtain ⟨ad, rfl, hb, hf, ht, hx⟩ := HE.out.get (Same.of_below hB.out) hlt'
              have hL' := hL.out
              have hF : es[k].tx.size ≤ 1000000000 := HF.out _ (List.getElem_mem hlt')
              rw [drop_at hlt'] at hL'
              obtain ⟨l1, l2, l3, l4⟩ := hL'
              obtain ⟨f, ef⟩ := ofNat_of (show 0 ≤ es[k].fr by omega)
              obtain ⟨t, et⟩ := ofNat_of (show 0 ≤ es[k].to by omega)
              obtain ⟨T, eT⟩ : ∃ T, T = es[k].tx := ⟨_, rfl⟩
              rw [ef] at hf l1 l2
              rw [et] at ht l2 l3 l4
              rw [← eT] at hx hF
              have hq := hI.out
              rw [drop_at hlt', joinP, ef, et, ← eT, Int.toNat_natCast, Int.toNat_natCast] at hq
              have hz := hS.out
              rw [drop_at hlt', sizeP, chg, ef, et, ← eT] at hz
              have hg1 := size_ge (x := out.size + (s.size - p) + ((T.size : Int) - (t - f))) l4
              rw [hz] at hg1
              obtain ⟨L, hR, hLn, hLt⟩ := hJ.out
              have HR := hide hR
              have HLt := Lib.hid hLt
              have HLn := Lib.hid hLn
              have hex : (s.extract p f).size = f - p := by simp [ByteArray.size_extract]; omega
              have HQ := Lib.hid hq; have HZ := Lib.hid hz; have HL4 := Lib.hid l4
              have HEX := Lib.hid hex
              have q1 : f ≤ s.size := by omega
              have q2 : p ≤ f := by omega
              clear hq hz l4 hI hS hL hn ef et eT hJ hR hLn hLt hex
              go_wp2
              obtain ⟨wa, hwa⟩ : ∃ wa, wa = wr.alloc (Obj.cells #[Value.int IntKind.i64 (f:Int), Value.int IntKind.i64 (t:Int), Value.string T] 35) := ⟨_, rfl⟩
              obtain ⟨b, hbb⟩ : ∃ b, b = wr.heap.size := ⟨_, rfl⟩
              have c0 : wa.cell? ⟨b, 0, none⟩ = some (.int .i64 f) := by rw [hwa, hbb]; simp
              have c1 : wa.cell? ⟨b, 1, none⟩ = some (.int .i64 t) := by rw [hwa, hbb]; simp
              have c2 : wa.cell? ⟨b, 2, none⟩ = some (.string T) := by rw [hwa, hbb]; simp
              rw [← hwa, ← hbb]
              have hoN : out.size ≤ N := by omega
              have HB2 := Lib.hid (show Below w.heap.size w wa by rw [hwa]; exact below_al hB.out _)
              have HR2 := hide (show RowB wa g 5 L by rw [hwa]; exact HR.out.alloc _)
              have HBB := Lib.hid hbb
              have hbl : b < wa.heap.size := by rw [hwa, hbb]; simp
              have HR0 := HR
              clear hwa hf ht hx hB HR hbb
              have HBG := Lib.hid (show b ≠ g by have := HBB.out; have := HR2.out.lt; have := HR0.out.lt; omega)
              have hw1 : IntKind.i64.wrap ((out.size : Int) + ((f - p : Nat) : Int)) = ((out.size + (f - p) : Nat) : Int) := by rw [IntWalk.i64_in _ (by omega)]; omega
              go_region_law (refine step_copy_str rfl (.tmp 54) (.tmp 59) 43 9 rfl 5 Try.underlying43 size5 g out.size L (s.extract p f) 5 HR2.out (by rw [HEX.out, HLn.out]; omega) _ _ _ rfl rfl (by rw [HEX.out]; omega) (by intro h; rw [HEX.out] at h; rw [if_neg (by omega)]) ?_; intro w3 h3 h4)
              have c1' : w3.cell? ⟨b, 1, none⟩ = some (.int .i64 t) := (World.cell?_of_block (h4.out.block b hbl (by intro e; exact HBG.out (by injection e)))).trans c1
              have c2' : w3.cell? ⟨b, 2, none⟩ = some (.string T) := (World.cell?_of_block (h4.out.block b hbl (by intro e; exact HBG.out (by injection e)))).trans c2
              have HB3 := Lib.hid (Below.grown (Below.drew HB2.out) h4.out (HB2.out.size) (by intro k e; injection e with e; rw [← e]; exact HG.out))
              clear c0 c1 c2 hw1 HR2 HB2
              have hw2 : IntKind.i64.wrap (((out.size + (f - p) : Nat) : Int) + (T.size : Int)) = ((out.size + (f - p) + T.size : Nat) : Int) := by rw [IntWalk.i64_in _ (by omega)]; omega
              generalize (if N = out.size then (some { block := g, off := 0 } : Option Addr) else some { block := g, off := out.size }) = dpx
              obtain ⟨o1, ho1⟩ : ∃ o1, o1 = out.size + (f - p) := ⟨_, rfl⟩
              rw [← ho1] at hw2
              have ho1' : ((out.size : Int) + ((f - p : Nat) : Int)) = (o1 : Int) := by omega
              have HO1 := Lib.hid ho1
              have ho1N : o1 + T.size ≤ N := by omega
              have ho1N' : o1 ≤ N := by omega
              clear ho1
              rw [ho1']
              clear ho1'
              go_wp2_with fail
              go_region_law (refine step_copy_str rfl (.tmp 65) (.tmp 67) 43 9 rfl 5 Try.underlying43 size5 g o1 (putB L out.size (s.extract p f)) T 5 h3.out (by rw [length_putB (by rw [HEX.out, HLn.out]; omega), HLn.out]; omega) _ _ _ rfl rfl (by omega) (by intro h; rw [if_neg (by omega)]) ?_; intro w4 h5 h6)
              generalize (if N = o1 then (some { block := g, off := 0 } : Option Addr) else some { block := g, off := o1 }) = dpy
              have c1'' : w4.cell? ⟨b, 1, none⟩ = some (.int .i64 t) := (World.cell?_of_block (h6.out.block b (Nat.lt_of_lt_of_le hbl h4.out.size) (by intro e; exact HBG.out (by injection e)))).trans c1'
              have HB4 := Lib.hid (Below.grown (Below.drew HB3.out) h6.out (HB3.out.size) (by intro k e; injection e with e; rw [← e]; exact HG.out))
              have HO2 : (((o1 : Int)) + (T.size : Int)) = ((o1 + T.size : Nat) : Int) := by omega
              rw [HO2]
              clear c1' c2' HO2 hw2 HB3
              go_wp2_with fail
              go_roundw
              case rel =>
                have e1 : (out ++ s.extract p f).size = o1 := by rw [size_append, HEX.out, HO1.out]
                have e2 : (out ++ s.extract p f ++ T).size = o1 + T.size := by rw [size_append, e1]
                have e3 : (putB L out.size (s.extract p f)).length = N := by rw [length_putB (by rw [HEX.out, HLn.out]; omega), HLn.out]
                refine ⟨k + 1, t, out ++ s.extract p f ++ T, by go_num, by rw [e2]; simp, rfl, by omega, hide ⟨_, h5.out, by rw [length_putB (by rw [e3]; omega), e3], ?_⟩, HQ.out, hide ?_, HL4, HB4⟩
                · have := take_putB' (L := putB L out.size (s.extract p f)) (out := out ++ s.extract p f) (s := T) (by rw [e1, e3]; omega) (take_putB' (by rw [HEX.out, HLn.out]; omega) HLt.out)
                  rw [e1] at this
                  exact this
                · rw [e2, ← HZ.out]
                  congr 1
                  have := HO1.out
                  omega
              case measure => simp [intOf]; omega
            · obtain ⟨L, hR, hLn, hLt⟩ := hJ.out
              have hps : (p : Int) ≤ s.size := hL.out.le
              have hz := hS.out
              rw [List.drop_eq_nil_of_le (by have := HN.out; omega), sizeP] at hz
              have hq := hI.out
              rw [List.drop_eq_nil_of_le (by have := HN.out; omega), joinP] at hq
              have hex : (s.extract p s.size).size = s.size - p := by simp [ByteArray.size_extract]
              have q1 : p ≤ s.size := by omega
              have q2 : out.size ≤ N := by omega
              have q3 : out.size + (s.size - p) = N := by omega
              have HR0 := hide hR
              have HLt := Lib.hid hLt
              have HLn := Lib.hid hLn
              have HQ := Lib.hid hq
              have HEX := Lib.hid hex
              clear hq hz hI hS hL hJ hR hLn hLt hex hps
              go_wp2
              go_region_law (refine step_copy_str rfl (.tmp 75) (.tmp 78) 43 9 rfl 5 Try.underlying43 size5 g out.size L (s.extract p s.size) 5 HR0.out (by rw [HEX.out, HLn.out]; omega) (if N = out.size then some { block := g, off := 0 } else some { block := g, off := out.size }) (N - out.size) (N - out.size) (by simp [Act.eval, Act.put]) (by simp [Act.eval, Act.put]) (by rw [HEX.out]; omega) (by intro h; rw [HEX.out] at h; rw [if_neg (by omega)]) ?_; intro w3 h3 h4)
              generalize (if N = out.size then (some { block := g, off := 0 } : Option Addr) else some { block := g, off := out.size }) = dpx
              have e3 : (putB L out.size (s.extract p s.size)).length = N := by rw [length_putB (by rw [HEX.out, HLn.out]; omega), HLn.out]
              have e4 : putB L out.size (s.extract p s.size) = (out ++ s.extract p s.size).data.toList := by
                have := take_putB' (L := L) (out := out) (s := s.extract p s.size) (by rw [HEX.out, HLn.out]; omega) HLt.out
                rw [List.take_of_length_le (by rw [e3, size_append, HEX.out]; omega)] at this
                exact this
              obtain ⟨L', hL'⟩ : ∃ L', L' = putB L out.size (s.extract p s.size) := ⟨_, rfl⟩
              rw [← hL'] at h3 e3 e4
              have hce : ∀ j (hj : j < L'.length), w3.cell? ((⟨g, 0, none⟩ : Addr).add j) = some (.int .u8 (L'[j].toNat : Int)) := fun j hj => by
                rw [add_head]; exact RowB.cell h3.out hj
              have hcv := run_convert_bytes_back (P := Try.prog) w3 43 9 5 ⟨g, 0, none⟩ N L' Try.underlying43 Try.underlying5 Try.underlying9 hce
              clear hce hL'
              rw [e3] at hcv
              have HB3 := Lib.hid (Below.grown (Below.drew hB.out) h4.out (hB.out.size) (by intro k e; injection e with e; rw [← e]; exact HG.out))
              have HE4 := Lib.hid e4
              clear e3 e4 h3 h4
              go_wp2_with fail
              go_ret2
              refine ⟨?_, HB3.out⟩
              rw [HRR.out]
              have : (ByteArray.mk L'.toArray) = out ++ s.extract p s.size := by
                apply ByteArray.ext
                rw [HE4.out]
              rw [this, ← HQ.out]
              rfl
  · have hrr : r = (ByteArray.empty, k0) := by rw [HR.out, applyP, if_pos (by rw [← HK.out]; exact hk), ← HK.out]
    have HRR := Lib.hid hrr; clear hrr
    have hk' : (k0 == 0) = false := by simpa using hk
    go_enter Try.func13, Try.ntmps13
    go_wp2_with (go_at_call 15; refine (unhide HC).mono ?_; rintro e wp ⟨rfl, hBp⟩)
    go_ret2
    exact ⟨by rw [HRR.out]; rfl, hBp⟩
end Go.Proofs.Ytbfgnafpianliaa
