/- str; clean: data with sorted members and without unused fields; Make; Reading JSON, plain: values; several, by whatever element; A region that draws its order: a head under a condition that the tail may break; the tail in whatever order. -/
import Derived.Test.YtmmbbndoimleaaaGreatDoorHAB
import Derived.Test.YtmmbbndoimleaaaGreatDoorHAE
import Derived.Laws.IdiomStrings
import Derived.Laws.BytesArg
import Derived.Test.YtmmbbndoimleaaaGreatDoorHAC

/- str. -/
namespace Go.Proofs.YtmmbbndoimleaaaGreatDoor
open Go.RowKit

def byL (l : List UInt8) : List Value := l.map fun b => .int .u8 ((b.toNat : Nat) : Int)
theorem byL_app (l k : List UInt8) : byL (l ++ k) = byL l ++ byL k := List.map_append
theorem byL_len (l : List UInt8) : (byL l).length = l.length := List.length_map _
theorem byL_one (l : List UInt8) : ∀ u ∈ byL l, u.oneCell' = true := fun u hu => by
  obtain ⟨b, _, rfl⟩ := List.mem_map.1 hu; rfl
theorem int_one (k : IntKind) (c : Int) : ∀ u ∈ [Value.int k c], u.oneCell' = true := fun u hu => by
  have : u = _ := List.mem_singleton.1 hu
  subst this; rfl
theorem infoB : (Tryz.prog.info? 5).map (fun i => (i.zero, i.size, i.bytes)) = some (some (.int .u8 0), 1, 1) := by kernel_rfl
/-- A row of bytes. -/
def ByR (w : World) (b : Nat) (u : Value) (l : List UInt8) : Prop := w.ownsRow b 5 1 u l.length (byL l)
theorem ByR.nil (w : World) (b : Nat) : ByR w b (.slice none 0 0) [] := World.ownsRow_nil _ _ _ _
theorem ByR.below {w w' : World} {b : Nat} {u : Value} {l : List UInt8} (h : ByR w b u l) (hb : Below w.heap.size w w') : ByR w' b u l := own_below h hb
theorem ByR.alloc {w : World} {b : Nat} {u : Value} {l : List UInt8} (h : ByR w b u l) (o : Obj) : ByR (w.alloc o) b u l := World.ownsRow.alloc h o
/-- A row of bytes as a string. -/
theorem conv_row {w : World} {b : Nat} {u : Value} {l : List UInt8} (h : ByR w b u l) : (convert 73 9 u).run Tryz.prog w = .ok (.string ⟨l.toArray⟩) w := by
  rcases h.2 with ⟨rfl, hn⟩ | ⟨g, cap, cur, rfl, hb, hh, hc, hm, hcs, htk⟩
  · have : l = [] := List.eq_nil_of_length_eq_zero hn
    subst this
    rw [run_convert_bytes_string w 73 9 5 none 0 0 Tryz.underlying73 Tryz.underlying5 Tryz.underlying9]
    rfl
  · refine run_convert_bytes_back w 73 9 5 ⟨g, 0, none⟩ cap l Tryz.underlying73 Tryz.underlying5 Tryz.underlying9 fun j hj => ?_
    have := World.ownsRow.cells h (g := g) rfl j (.int .u8 ((l[j].toNat : Nat) : Int)) (by unfold byL; rw [List.getElem?_map, List.getElem?_eq_getElem hj]; rfl)
    exact this
theorem esc_ok {S : ByteArray} {i c j : Nat} (h : escF S i = .ok (c, j)) : i + 2 ≤ j ∧ j ≤ S.size ∧ c < 256 := by
  unfold escF at h
  have hn := nx_lt S (i + 1)
  obtain ⟨x, hx⟩ : ∃ x, x = nx S (i + 1) := ⟨_, rfl⟩
  have hs : x ≠ 0 → i + 1 < S.size := fun h => nx_in (by rw [← hx]; exact h)
  rw [← hx] at h hn
  simp only at h
  split at h
  · injection h with h; injection h with h1 h2; have := hs (by omega); omega
  split at h
  · injection h with h; injection h with h1 h2; have := hs (by omega); omega
  split at h
  · injection h with h; injection h with h1 h2; have := hs (by omega); omega
  split at h
  · injection h with h; injection h with h1 h2; have := hs (by omega); omega
  split at h
  · injection h with h; injection h with h1 h2; have := hs (by omega); omega
  split at h
  · injection h with h; injection h with h1 h2; have := hs (by omega); omega
  split at h
  · cases hw : wordF S [48, 48] (i + 2) with
    | error f => rw [hw] at h; cases h
    | ok k =>
      rw [hw] at h
      simp only at h
      have hk : k = i + 4 := word_len hw
      cases ha : hexV (nx S k) with
      | none => rw [ha] at h; cases h
      | some a =>
        rw [ha] at h
        simp only at h
        cases hb : hexV (nx S (k + 1)) with
        | none => rw [hb] at h; cases h
        | some b =>
          rw [hb] at h
          injection h with h; injection h with h1 h2
          have h3 := hex_small ha; have h4 := hex_small hb
          have h5 : k + 1 < S.size := nx_in (by intro h0; rw [h0, hex_zero] at hb; cases hb)
          omega
  · cases h
theorem strL_fuel (S : ByteArray) : ∀ (m n i : Nat) (o : ByteArray), S.size + 1 - i ≤ m → m ≤ n → strL S n i o = strL S m i o
  | 0, n, i, o, h, _ => by
    cases n with
    | zero => rfl
    | succ n =>
      have h0 : nx S i = 0 := by unfold nx; rw [if_neg (by omega)]
      unfold strL
      rw [h0, if_neg (by decide), if_neg (by decide), if_pos (.inl (by omega))]
  | m + 1, 0, _, _, _, h => by omega
  | m + 1, n + 1, i, o, h, hn => by
    unfold strL
    split
    · rfl
    split
    · cases he : escF S i with
      | error f => rfl
      | ok p =>
        obtain ⟨c, j⟩ := p
        have := esc_ok he
        exact strL_fuel S m n j _ (by omega) (by omega)
    split
    · rfl
    · exact strL_fuel S m n (i + 1) _ (by omega) (by omega)
/-- The rest of a string from a place. -/
def strR (S : ByteArray) (i : Nat) (o : ByteArray) : Except Flt (ByteArray × Nat) := strL S (S.size + 1 - i) i o
theorem strR_eq {S : ByteArray} {i : Nat} (hi : i ≤ S.size) (o : ByteArray) : strR S i o =
    if nx S i = 34 then .ok (o, i + 1)
    else if nx S i = 92 then match escF S i with
      | .error f => .error f
      | .ok (c, j) => strR S j (o.push (UInt8.ofNat c))
    else if S.size ≤ i ∨ nx S i < 32 ∨ 126 < nx S i then .error (19, (i : Int))
    else strR S (i + 1) (o.push (UInt8.ofNat (nx S i))) := by
  unfold strR
  rw [show S.size + 1 - i = (S.size - i) + 1 by omega, strL]
  split
  · rfl
  split
  · cases he : escF S i with
    | error f => rfl
    | ok p =>
      obtain ⟨c, j⟩ := p
      have := esc_ok he
      exact strL_fuel S (S.size + 1 - j) (S.size - i) j _ (by omega) (by omega)
  split
  · rfl
  · exact strL_fuel S (S.size + 1 - (i + 1)) (S.size - i) (i + 1) _ (by omega) (by omega)
def SPost (g : Nat) (S : ByteArray) (w : World) (r : Except Flt (ByteArray × Nat)) (e : Ending) (w' : World) : Prop :=
  match r with
  | .ok (T, j) => e = .returned (.string T) ∧ Pr w' g S j ∧ Px g w w'
  | .error f => FPost g w f e w'
theorem str_push {w0 wr w' : World} {g k : Nat} {S : ByteArray} {u u' : Value} {l : List UInt8} {c : Nat} (hP : Pr wr g S k) (hX : Px g w0 wr) (hB : ByR wr w0.heap.size u l) (hgw : g < w0.heap.size) (hc : c < 256)
    (h1 : w'.ownsRow w0.heap.size 5 1 u' (l.length + 1) (byL l ++ [.int .u8 (c : Int)])) (h2 : wr.grownBy w' u.ownBlock) : Pr w' g S k ∧ Px g w0 w' ∧ ByR w' w0.heap.size u' (l ++ [UInt8.ofNat c]) := by
  refine ⟨hP.other h2 (fun e => by have := (World.ownsRow.lt hB g e.symm).1; omega), hX.grown h2 (fun k e => (World.ownsRow.lt hB k e).1), ?_⟩
  unfold ByR
  rw [byL_app, List.length_append]
  have : byL [UInt8.ofNat c] = [.int .u8 (c : Int)] := by
    unfold byL
    simp
    omega
  rw [this]; exact h1
theorem ba_push (l : List UInt8) (c : UInt8) : (⟨l.toArray⟩ : ByteArray).push c = ⟨(l ++ [c]).toArray⟩ := by
  unfold ByteArray.push; simp

set_option maxRecDepth 20000 in
set_option maxHeartbeats 4000000 in
theorem str_run (S : ByteArray) (g i : Nat) (w : World) (h : Pr w g S i) (hS : S.size ≤ 1000000000) (hi : i ≤ S.size) :
    Calls Tryz.prog 38 #[.pointer (some ⟨g, 0, none⟩)] w (SPost g S w (strF S i)) := by
  obtain ⟨i0, hi0, hz0, hz1, hz2⟩ := info_parts infoB
  obtain ⟨r, hr⟩ : ∃ r, r = strF S i := ⟨_, rfl⟩
  rw [← hr]
  unfold strF at hr
  have HN := hide fun k V (h : Pr V g S k) => next_run S g k V h
  have HF := hide fun (e : Int) (k : Nat) V => fail_run (.pointer (some ⟨g, 0, none⟩)) e (k : Nat) V
  have HW := hide (word_run S ⟨#[34]⟩ g i w h (by omega) (by decide))
  have HES := hide fun k V (h : Pr V g S k) (hk : k ≤ S.size) => jescape_run S g k V h (by omega)
  have HG := hide h.lt
  obtain ⟨q, hq⟩ : ∃ q, q = wordF S [34] i := ⟨_, rfl⟩
  rw [← hq] at hr
  rw [show (⟨#[34]⟩ : ByteArray).data.toList = [34] from rfl, ← hq] at HW
  have HR := Lib.hid hr; have HQ := Lib.hid hq
  clear h hr hq
  go_enter Tryz.func38, Tryz.ntmps38
  go_wp2_with fail
  refine HW.out.mono ?_
  cases q with
  | error f =>
    rintro e w1 ⟨rfl, hx⟩
    have HE2 := hide (show r = .error f from HR.out)
    have HX := hide hx
    clear hx HR
    go_wp2_with fail
    rw [HE2.out]
    exact ⟨rfl, rfl, HX.out⟩
  | ok j =>
    rintro e w1 ⟨rfl, hP, hx⟩
    have hj : j = i + 1 := word_len HQ.out.symm
    have hjs : j ≤ S.size := by
      have h1 := HQ.out
      unfold wordF at h1
      split at h1
      · rename_i h34
        have : i < S.size := nx_in (by rw [h34]; decide)
        omega
      · cases h1
    have H0 := hide (show Pr w1 g S j ∧ Px g w w1 ∧ ByR w1 w.heap.size (.slice none 0 0) [] ∧ r = strR S j ⟨([] : List UInt8).toArray⟩ from ⟨hP, hx, ByR.nil _ _, HR.out⟩)
    clear hP hx HR HQ HW hj
    go_wp2_with fail
    go_loopw [3, 4] (fun uv _ wr => ∃ (k : Nat) (l : List UInt8), k ≤ S.size ∧ l.length ≤ k ∧ Hid (Pr wr g S k ∧ Px g w wr ∧ ByR wr w.heap.size uv l ∧ r = strR S k ⟨l.toArray⟩)) (fun _ _ wr => S.size + 1 - atOf wr g)
    case atStart => exact ⟨j, [], hjs, Nat.zero_le _, H0⟩
    case round =>
      clear H0
      obtain ⟨k, l, hk, hlk, hR⟩ := hrel
      obtain ⟨c0, c1, f1⟩ := hR.out.1.cells
      have HN1 := hide fun V (h : Pr V g S k) => HN.out k V h
      obtain ⟨x, hx⟩ : ∃ x, x = nx S k := ⟨_, rfl⟩
      have hx2 := nx_lt S k
      have HRR := hide (hR.out.2.2.2.trans (strR_eq hk _))
      rw [← hx] at HN1 hx2 HRR
      have HX := Lib.hid hx
      clear hx
      by_cases h34 : x = 34
      · subst h34
        have HE2 := hide (show r = .ok (⟨l.toArray⟩, k + 1) by rw [HRR.out, if_pos rfl])
        clear HRR
        go_wp2_with fail
        refine (HN1.out _ hR.out.1).mono ?_; rintro e w2 ⟨rfl, n1, rfl⟩
        have hcv := conv_row (w := (wr.drewN n1).setCell ⟨g, 1, none⟩ (.int .i64 ((k : Int) + 1))) (b := w.heap.size) (u := u3) (l := l) (ownsRow_setCell_below (hR.out.2.2.1.below (below_drewN (Below.refl _ _) _)) (a := ⟨g, 1, none⟩) HG.out _)
        go_wp2_with fail
        go_ret
        rw [HE2.out]
        exact ⟨rfl, (hR.out.1.drewN _).set_ (k + 1), (hR.out.2.1.drewN _).set_ 1 _⟩
      · have d34 : ((x : Int) != 34) = true := by simp; omega
        go_wp2_with fail
        refine (HN1.out _ hR.out.1).mono ?_; rintro e w2 ⟨rfl, n1, rfl⟩
        go_wp2_with fail
        refine (HN1.out _ (hR.out.1.drewN _)).mono ?_; rintro e w2 ⟨rfl, n2, rfl⟩
        go_upto_region 5 with fail
        obtain ⟨wa, hwa⟩ : ∃ W, W = wr.drewN (n1 + n2) := ⟨_, rfl⟩
        have HP1 := hide (show Pr wa g S k by rw [hwa]; exact hR.out.1.drewN _)
        have HX1 := hide (show Px g w wa by rw [hwa]; exact hR.out.2.1.drewN _)
        have HB1 := hide (show ByR wa w.heap.size u3 l by rw [hwa]; exact hR.out.2.2.1.below (below_drewN (Below.refl _ _) _))
        have HAT := hide (show atOf wr g = k from hR.out.1.at_)
        rw [← hwa]
        clear hwa hR c0 c1 f1 HN1
        obtain ⟨c0, c1, f1⟩ := HP1.out.cells
        by_cases h92 : x = 92
        · subst h92
          have HE1 := hide (show r = match escF S k with
            | .error f => .error f
            | .ok (c, j) => strR S j ((⟨l.toArray⟩ : ByteArray).push (UInt8.ofNat c)) by rw [HRR.out, if_neg (by decide), if_pos rfl])
          have HES1 := hide (HES.out k wa HP1.out hk)
          obtain ⟨q, hq⟩ : ∃ q, q = escF S k := ⟨_, rfl⟩
          rw [← hq] at HE1 HES1
          have HQ := Lib.hid hq
          clear hq HRR
          go_wp2_with fail
          refine HES1.out.mono ?_
          cases q with
          | error f =>
            rintro e w3 ⟨rfl, hx⟩
            have HE2 := hide (show r = .error f from HE1.out)
            have HX3 := hide (HX1.out.trans hx)
            clear hx HE1
            go_wp2_with fail
            rw [HE2.out]
            exact ⟨rfl, rfl, HX3.out⟩
          | ok p =>
            obtain ⟨c, j2⟩ := p
            obtain ⟨k1, k2, k3⟩ := esc_ok HQ.out.symm
            rintro e w3 ⟨rfl, hp, hx⟩
            have HE2 := hide (show r = strR S j2 ((⟨l.toArray⟩ : ByteArray).push (UInt8.ofNat c)) from HE1.out)
            have HP3 := hide hp
            have HX3 := hide (HX1.out.trans hx)
            have HB3 := hide (show ByR w3 w.heap.size u3 l from World.ownsRow.kept HB1.out ⟨hx.1.os, hx.1.tape, hx.1.output, hx.1.size, fun k hk hn => hx.2 k hk (by simpa using hn)⟩ (row := some g) (by
              rcases hv : u3.ownBlock with _ | y
              · exact .inl rfl
              · exact .inr fun e => by have := (World.ownsRow.lt HB1.out y hv).1; have := HG.out; injection e with e; omega))
            clear hp hx HE1 HQ HES1
            go_wp2_with (at_builtin; refine wpList_append_all _ rfl (.tmp 15) (.tmp 18) _ rfl w.heap.size 5 i0 _ 1 1 Tryz.underlying73 hi0 hz0 hz1 hz2 rfl (by omega) u3 l.length (byL l) rfl (HB3.out.alloc _) (some ⟨w3.heap.size, 0, none⟩) 1 1 [.int .u8 (c : Int)] rfl (by intro h; cases h) rfl (by intro ad' h; injection h with h; subst h; exact World.news_of_block (heap_alloc_new _ _)) (int_one _ _) (by unfold maxLen; omega) (by omega) (by have := HX3.out.size; simp; omega) ?_)
            intro v5 w5 o1 o2
            obtain ⟨p1, p2, p3⟩ := str_push (HP3.out.below ((Below.refl _ _).alloc (Nat.le_refl _) _)) (HX3.out.alloc _) (HB3.out.alloc (.cells #[.int .u8 (c : Int)] 5)) HG.out k3 o1.out o2.out
            have HP5 := hide p1; have HX5 := hide p2; have HB5 := hide p3
            clear o1 o2 p1 p2 p3 HB3 HX3 HP3
            go_wp2_with fail
            go_roundw
            case rel => exact ⟨j2, l ++ [UInt8.ofNat c], k2, by simp; omega, hide ⟨HP5.out, HX5.out, HB5.out, by rw [HE2.out, ba_push]⟩⟩
            case measure => rw [HP5.out.at_, HAT.out]; omega
        · have d92 : ((x : Int) == 92) = false := by simp; omega
          by_cases hbad : S.size ≤ k ∨ x < 32 ∨ 126 < x
          · have HE2 := hide (show r = .error (19, (k : Int)) by rw [HRR.out, if_neg h34, if_neg h92, if_pos hbad])
            clear HRR
            by_cases h1 : S.size ≤ k
            · have g1 : (S.size : Int) ≤ (k : Int) := by omega
              go_wp2_with fail
              go_quiet (fail)
              go_wp2_with fail
              refine (HF.out 19 k _).mono ?_; rintro e w3 ⟨rfl, rfl⟩
              go_wp2_with fail
              rw [HE2.out]
              exact ⟨rfl, rfl, HX1.out.drewN _⟩
            · have g1 : ¬ (S.size : Int) ≤ (k : Int) := by omega
              by_cases h2 : x < 32
              · have g2 : (x : Int) < 32 := by omega
                go_wp2_with fail
                go_quiet (fail)
                go_wp2_with fail
                refine (HF.out 19 k _).mono ?_; rintro e w3 ⟨rfl, rfl⟩
                go_wp2_with fail
                rw [HE2.out]
                exact ⟨rfl, rfl, HX1.out.drewN _⟩
              · have g2 : ¬ (x : Int) < 32 := by omega
                have g3 : (126 : Int) < (x : Int) := by omega
                go_wp2_with fail
                go_quiet (fail)
                go_wp2_with fail
                refine (HF.out 19 k _).mono ?_; rintro e w3 ⟨rfl, rfl⟩
                go_wp2_with fail
                rw [HE2.out]
                exact ⟨rfl, rfl, HX1.out.drewN _⟩
          · have HE2 := hide (show r = strR S (k + 1) ((⟨l.toArray⟩ : ByteArray).push (UInt8.ofNat x)) by rw [HRR.out, if_neg h34, if_neg h92, if_neg hbad])
            have g1 : ¬ (S.size : Int) ≤ (k : Int) := by omega
            have g2 : ¬ (x : Int) < 32 := by omega
            have g3 : ¬ (126 : Int) < (x : Int) := by omega
            have hks : k < S.size := by omega
            clear HRR hbad
            go_wp2_with fail
            go_quiet (fail)
            go_upto_region 9 with fail
            obtain ⟨wb, hwb⟩ : ∃ W, W = wa.drewN nq := ⟨_, rfl⟩
            have HP3 := hide (show Pr wb g S k by rw [hwb]; exact HP1.out.drewN _)
            have HX3 := hide (show Px g w wb by rw [hwb]; exact HX1.out.drewN _)
            have HB3 := hide (show ByR wb w.heap.size u3 l by rw [hwb]; exact HB1.out.below (below_drewN (Below.refl _ _) _))
            rw [← hwb]
            clear hwb HP1 HX1 HB1 c0 c1 f1 g1 g2 g3
            go_wp2_with (at_builtin; refine wpList_append_all _ rfl (.tmp 45) (.tmp 47) _ rfl w.heap.size 5 i0 _ 1 1 Tryz.underlying73 hi0 hz0 hz1 hz2 rfl (by omega) u3 l.length (byL l) rfl (HB3.out.alloc _) (some ⟨wb.heap.size, 0, none⟩) 1 1 [.int .u8 (x : Int)] rfl (by intro h; cases h) rfl (by intro ad' h; injection h with h; subst h; exact World.news_of_block (heap_alloc_new _ _)) (int_one _ _) (by unfold maxLen; omega) (by omega) (by have := HX3.out.size; simp; omega) ?_)
            intro v5 w5 o1 o2
            obtain ⟨p1, p2, p3⟩ := str_push (HP3.out.below ((Below.refl _ _).alloc (Nat.le_refl _) _)) (HX3.out.alloc _) (HB3.out.alloc (.cells #[.int .u8 (x : Int)] 5)) HG.out hx2 o1.out o2.out
            have HP5 := hide p1; have HX5 := hide p2; have HB5 := hide p3
            obtain ⟨c0, c1, f1⟩ := p1.cells
            clear o1 o2 p1 p2 p3 HB3 HX3 HP3
            go_wp2_with fail
            go_roundw
            case rel => exact ⟨k + 1, l ++ [UInt8.ofNat x], hks, by simp; omega, hide ⟨HP5.out.set_ (k + 1), HX5.out.set_ 1 _, ownsRow_setCell_below HB5.out (a := ⟨g, 1, none⟩) HG.out _, by rw [HE2.out, ba_push]⟩⟩
            case measure =>
              have e1 : atOf (w5.setCell ⟨g, 1, none⟩ (.int .i64 ((k : Int) + 1))) g = k + 1 := (HP5.out.set_ (k + 1)).at_
              rw [e1, HAT.out]; omega
end Go.Proofs.YtmmbbndoimleaaaGreatDoor

/- clean: data with sorted members and without unused fields. -/
namespace Go.Proofs.YtmmbbndoimleaaaGreatDoor
open Go.RowKit

def FitC : Nat → Dt → Prop
  | 0, _ => True
  | r + 1, d => ((iD d).length ≤ 1000000 ∧ (mD d).length ≤ 1000000) ∧ ∀ x ∈ kids d, FitC r x
def cleanF : Nat → Int → Dt → Dt
  | 0, _, _ => zeroD
  | m + 1, lv, d => if 16 < lv then mkD (kD d) 0 ⟨#[]⟩ [] [] else
      mkD (kD d) (if kD d = 2 ∨ kD d = 3 then nD d else 0) (if kD d = 4 then sD d else ⟨#[]⟩) (if kD d = 5 then (iD d).map (cleanF m (lv + 1)) else [])
        (if kD d = 6 then sortK Prod.fst ((mD d).map fun x => (x.1, cleanF m (lv + 1) x.2)) else [])
def CleanPost (w : World) (m : Nat) (r : Dt) (e : Ending) (w' : World) : Prop := ∃ a c a' c', e = .returned (datV r a c a' c') ∧ Below w.heap.size w w' ∧ PZ w.heap.size none w' m r a c a' c'

set_option maxRecDepth 20000 in
set_option maxHeartbeats 4000000 in
theorem clean_run : ∀ (m : Nat) (d : Dt) (A : Option Addr) (c : Nat) (A' : Option Addr) (c' : Nat) (lv : Int) (w : World), Parts w w.heap.size m d A c A' c' → FitC m d → 1 ≤ lv → lv ≤ 17 →
    Calls Tryz.prog 45 #[datV d A c A' c', .int .i64 lv] w (CleanPost w m (cleanF m lv d)) := by
  intro m
  induction m with
  | zero => intro d A c A' c' lv w hp; exact hp.elim
  | succ m ih =>
    intro d A c A' c' lv w hp hf hlv1 hlv2
    obtain ⟨⟨h1, h2, h3, h4⟩, hI, hM⟩ := hp
    have hm := maxLen_le h2; have hm' := maxLen_le h4
    obtain ⟨hkl, hkm⟩ := hf.1
    have HCK := hide fun W X a q a' q' (hx : X ∈ kids d) (hX : Parts w w.heap.size m X a q a' q') (hB : Below w.heap.size w W) (h1 : lv + 1 ≤ 17) => ih X a q a' q' (lv + 1) W (hX.turn (Same.of_below hB) hB.size) (hf.2 X hx) (by omega) h1
    unfold kids at HCK
    have HI := Lib.hid hI; have HM := Lib.hid hM
    obtain ⟨i0, hi0, hz0, hz1, hz2⟩ := info_parts infoD
    obtain ⟨i1, hi1, hy0, hy1, hy2⟩ := info_parts infoM
    obtain ⟨r, hr⟩ : ∃ r, r = cleanF (m + 1) lv d := ⟨_, rfl⟩
    rw [← hr]
    unfold cleanF at hr
    unfold datV datCs
    obtain ⟨k, hk⟩ : ∃ k, k = kD d := ⟨_, rfl⟩
    obtain ⟨n, hn'⟩ : ∃ k, k = nD d := ⟨_, rfl⟩
    obtain ⟨s, hs⟩ : ∃ k, k = sD d := ⟨_, rfl⟩
    obtain ⟨xs, hxs⟩ : ∃ k, k = iD d := ⟨_, rfl⟩
    obtain ⟨ys, hys⟩ : ∃ k, k = mD d := ⟨_, rfl⟩
    rw [← hk, ← hn', ← hs, ← hxs, ← hys] at hr
    rw [← hxs] at HI h1 hkl HCK
    rw [← hys] at HM h3 hkm HCK
    rw [← hk, ← hn', ← hs, ← hxs, ← hys]
    obtain ⟨x, hx⟩ : ∃ k, k = xs.length := ⟨_, rfl⟩
    obtain ⟨y, hy⟩ : ∃ k, k = ys.length := ⟨_, rfl⟩
    rw [← hx] at h1 hkl
    rw [← hy] at h3 hkm
    rw [← hx, ← hy]
    have HX := Lib.hid hx; have HY := Lib.hid hy; have HRES := Lib.hid hr
    clear hr hk hn' hs hxs hys hx hy h2 h4 hM hI hf ih
    go_enter Tryz.func45, Tryz.ntmps45
    go_upto_region 2 with fail
    obtain ⟨w1, g, e1, e2, hB1, _, _, _, _, _, hR1⟩ := boxD w k n s (.slice A x c) (.slice A' y c')
    obtain ⟨w2, g4, e3, e4, hB2, _, _, _, _, _, hR2⟩ := boxD w1 0 0 ⟨#[]⟩ (.slice none 0 0) (.slice none 0 0)
    obtain ⟨w3, g5, e5, e6, hB3, _, _, _, _, _, hR3⟩ := boxD w2 k 0 ⟨#[]⟩ (.slice none 0 0) (.slice none 0 0)
    have e7 : w.heap.size + 1 = g4 := by rw [← e4, ← e1]; simp
    have e8 : g4 + 1 = g5 := by rw [← e6, ← e3, ← e4]; simp
    have e9 : w3.heap.size = g5 + 1 := by rw [← e5, ← e6]; simp
    rw [e7, e8, e1, e2, e3, e5]
    obtain ⟨b0, hb0⟩ : ∃ b, b = g + 3 := ⟨_, rfl⟩
    have HST := hide (show CSt w g g4 g5 b0 [.int .i64 k, .int .i64 n, .string s, .slice A x c, .slice A' y c'] [.int .i64 0, .int .i64 0, .string ⟨#[]⟩, .slice none 0 0, .slice none 0 0] [.int .i64 k, .int .i64 0, .string ⟨#[]⟩, .slice none 0 0, .slice none 0 0] w3 from
      ⟨⟨e2, by omega, by omega, hb0⟩, by omega, (hB1.trans (hB2.mono hB1.size)).trans (hB3.mono (Nat.le_trans hB1.size hB2.size)), (hR1.below hB2).below hB3, hR2.below hB3, hR3⟩)
    obtain ⟨s0, s1, s2, s3, s4⟩ := row5 HST.out.2.2.2.1
    obtain ⟨t0, t1, t2, t3, t4⟩ := row5 HST.out.2.2.2.2.2
    have f0 := HST.out.2.2.2.2.1.frozen 0
    have f1 := HST.out.2.2.2.2.1.frozen 1
    have f2 := HST.out.2.2.2.2.1.frozen 2
    have f3 := HST.out.2.2.2.2.1.frozen 3
    have f4 := HST.out.2.2.2.2.1.frozen 4
    have q1 := HST.out.2.2.2.2.2.frozen 1
    have q2 := HST.out.2.2.2.2.2.frozen 2
    have q3 := HST.out.2.2.2.2.2.frozen 3
    have q4 := HST.out.2.2.2.2.2.frozen 4
    obtain ⟨r0, r1, r2, r3, r4⟩ := row5 HST.out.2.2.2.2.1
    have hgg : g4 ≠ g5 := by have := HST.out.1; omega
    clear e1 e2 e3 e4 e5 e6 e7 e8 e9 hB1 hB2 hB3 hR1 hR2 hR3 hb0
    by_cases hlv : 16 < lv
    · have HE := hide (show r = mkD k 0 ⟨#[]⟩ [] [] by rw [HRES.out, if_pos hlv])
      clear HRES
      go_wp2_with fail
      refine bodyPost_ret (results_dat rfl _ _ g4 _ _ _ _ _ rfl (row_set5 HST.out.2.2.2.2.1 _ _ _ _ _)) rfl ?_
      exact clean_fin HST.out (DZ.nil _ _ _) (MZ.nil _ _ _) HE.out _ _ _ _ _
    · have hlv3 : lv + 1 ≤ 17 := by omega
      have HE := hide (show r = mkD k (if k = 2 ∨ k = 3 then n else 0) (if k = 4 then s else ⟨#[]⟩) (if k = 5 then xs.map (cleanF m (lv + 1)) else []) (if k = 6 then sortK Prod.fst (ys.map fun x => (x.1, cleanF m (lv + 1) x.2)) else []) by rw [HRES.out, if_neg hlv])
      have w1' : IntKind.i64.wrap (lv + 1) = lv + 1 := IntWalk.i64_in _ (by omega)
      clear HRES
      by_cases k2 : k = 2
      · subst k2
        have HE2 := hide (show r = mkD 2 n ⟨#[]⟩ [] [] by rw [HE.out]; rfl)
        have HS1 := hide (HST.out.set 1 (.int .i64 n))
        clear HE
        go_wp2_with fail
        refine bodyPost_ret (results_dat rfl _ _ g4 _ _ _ _ _ rfl (row_set5 HS1.out.2.2.2.2.1 _ _ _ _ _)) rfl ?_
        exact clean_fin HS1.out (DZ.nil _ _ _) (MZ.nil _ _ _) HE2.out _ _ _ _ _
      by_cases k3 : k = 3
      · subst k3
        have HE2 := hide (show r = mkD 3 n ⟨#[]⟩ [] [] by rw [HE.out]; rfl)
        have HS1 := hide (HST.out.set 1 (.int .i64 n))
        clear HE
        go_wp2_with fail
        refine bodyPost_ret (results_dat rfl _ _ g4 _ _ _ _ _ rfl (row_set5 HS1.out.2.2.2.2.1 _ _ _ _ _)) rfl ?_
        exact clean_fin HS1.out (DZ.nil _ _ _) (MZ.nil _ _ _) HE2.out _ _ _ _ _
      by_cases k4 : k = 4
      · subst k4
        have HE2 := hide (show r = mkD 4 0 s [] [] by rw [HE.out]; rfl)
        have HS1 := hide (HST.out.set 2 (.string s))
        clear HE
        go_wp2_with fail
        refine bodyPost_ret (results_dat rfl _ _ g4 _ _ _ _ _ rfl (row_set5 HS1.out.2.2.2.2.1 _ _ _ _ _)) rfl ?_
        exact clean_fin HS1.out (DZ.nil _ _ _) (MZ.nil _ _ _) HE2.out _ _ _ _ _
      by_cases k5 : k = 5
      · subst k5
        have HE2 := hide (show r = mkD 5 0 ⟨#[]⟩ (xs.map (cleanF m (lv + 1))) [] by rw [HE.out]; rfl)
        obtain ⟨L, hL⟩ : ∃ L, L = xs.map (cleanF m (lv + 1)) := ⟨_, rfl⟩
        rw [← hL] at HE2
        have HLL := Lib.hid (show L.length = x by rw [hL, List.length_map, HX.out])
        have HL := Lib.hid hL
        have HO := hide (show OwnD (PZ b0 (Value.slice none 0 0).ownBlock w3 m) w3 b0 (.slice none 0 0) (L.take 0) from ⟨[], World.ownsRow_nil _ _ _ _, rfl⟩)
        clear HE hL
        go_wp2_with fail
        go_loopw [7, 34] (fun _ iv wr => ∃ (i : Nat) (u : Value), iv = .int .i64 i ∧ i ≤ x ∧ Hid (CSt w g g4 g5 b0 [.int .i64 5, .int .i64 n, .string s, .slice A x c, .slice A' y c'] [.int .i64 0, .int .i64 0, .string ⟨#[]⟩, .slice none 0 0, .slice none 0 0] [.int .i64 5, .int .i64 0, .string ⟨#[]⟩, u, .slice none 0 0] wr) ∧ Hid (OwnD (PZ b0 u.ownBlock wr m) wr b0 u (L.take i))) (fun _ iv _ => x - (intOf iv).toNat)
        case atStart => exact ⟨0, _, rfl, Nat.zero_le _, HST, HO⟩
        case round =>
          clear HO HST s0 s1 s2 s3 s4 t0 t1 t2 t3 t4 f0 f1 f2 f3 f4 q1 q2 q3 q4 r0 r1 r2 r3 r4
          obtain ⟨i, u, rfl, hi, hST, hO⟩ := hrel
          by_cases hlt : i < x
          · have hlt' : i < xs.length := by rw [← HX.out]; exact hlt
            obtain ⟨ad, rfl, hb, a, q, a', q', hfive, hpts⟩ := HI.out i _ (List.getElem?_eq_getElem hlt')
            obtain ⟨X, hX⟩ : ∃ X, X = xs[i] := ⟨_, rfl⟩
            have hmem : X ∈ xs ++ ys.map Prod.snd := List.mem_append.2 (.inl (hX ▸ List.getElem_mem hlt'))
            rw [← hX] at hfive hpts
            have hbb : (ad.add (i * 5)).block < w.heap.size := by rw [block_of_add]; exact hb
            obtain ⟨s0, s1, s2, s3, s4⟩ := hfive.same hbb (Same.of_below hST.out.2.2.1)
            have HXX := Lib.hid (show L.take (i + 1) = L.take i ++ [cleanF m (lv + 1) X] by
              have h1 : i < L.length := by rw [HLL.out]; exact hlt
              rw [List.take_add_one, List.getElem?_eq_getElem h1]
              have : L[i] = cleanF m (lv + 1) X := by
                have := HL.out; subst this; rw [List.getElem_map, hX]
              rw [this]; rfl)
            have HLT := Lib.hid (show (L.take i).length = i by rw [List.length_take, HLL.out]; omega)
            have HCK2 := hide fun W (hB : Below w.heap.size w W) => HCK.out W X a q a' q' hmem hpts hB hlv3
            unfold CleanPost datV datCs at HCK2
            obtain ⟨Y, hY⟩ : ∃ Y, Y = cleanF m (lv + 1) X := ⟨_, rfl⟩
            rw [← hY] at HCK2 HXX
            clear hY
            clear hfive hpts hX hlt' hb hbb hmem
            obtain ⟨zs, ho, hf⟩ := hO.out
            rw [HLT.out] at ho
            have HOW := hide ho; have HFL := hide hf
            clear ho hf hO
            go_upto_region 14 with fail
            obtain ⟨wa, b, e1, e2, hBa, _, _, _, _, _, hRa⟩ := boxD wr (kD X) (nD X) (sD X) (.slice a (iD X).length q) (.slice a' (mD X).length q')
            rw [e1, e2]
            have HSA := hide (hST.out.below hBa)
            have HRA := hide hRa
            have HBA := hide hBa
            have hbg : b ≠ g5 := by have := hST.out.1; have := hST.out.2.1; omega
            obtain ⟨t0, t1, t2, t3, t4⟩ := row5 HSA.out.2.2.2.2.2
            have q3 := HSA.out.2.2.2.2.2.frozen 3
            obtain ⟨d0, d1, d2, d3, d4⟩ := row5 hRa
            have HS := hide fun W (h : Below wa.heap.size wa W) => row5 (hRa.below h)
            have hb0a : b0 ≤ wa.heap.size := HSA.out.2.1
            have HSB := hide hST.out.2.1
            have HG5 := hide (show g5 < b0 by have := hST.out.1; omega)
            have HOA := hide (show wa.ownsRow b0 25 5 u i zs from own_below HOW.out hBa)
            have HBN := hide (show ∀ k, u.ownBlock = some k → some b ≠ some k from fun k e e' => by injection e' with e'; have := (HOW.out.lt k e).2; omega)
            have HWB := hide fun W (h : Below wa.heap.size wa W) => (hST.out.2.2.1.trans ((hBa.trans (h.mono hBa.size)).mono hST.out.2.2.1.size))
            clear e1 e2 hBa hRa s0 s1 s2 s3 s4 hST
            go_region_law (first
                | (go_simp; go_at_call 45; refine (HCK2.out _ (HWB.out _ (Below.refl _ _).drew)).mono ?_; rintro e w4 ⟨ra, rc, ra', rc', rfl, hB4, hP4⟩; have hB5 := (Below.refl wa.heap.size wa).drew.trans hB4; have hzA : w4.cell? ⟨g5, 3, none⟩ = some u := (HSA.out.below hB5).2.2.2.2.2.cell 3; have hzB : ∀ o, (w4.alloc o).cell? ⟨g5, 3, none⟩ = some u := fun o => (HSA.out.below (below_al hB5 o)).2.2.2.2.2.cell 3; have hzC := hB5.size)
                | (refine step_append_lies _ rfl (.tmp 39) (.tmp 44) _ rfl b0 25 i0 _ 5 80 Tryz.underlying22 hi0 hz0 hz1 hz2 rfl (by omega) u i zs rfl ((own_below HOA.out hB5).alloc _) ⟨w4.heap.size, 0, none⟩ 1 1 (datCs Y ra rc ra' rc') rfl rfl (World.news_of_block (heap_alloc_new _ _)) datCs_one (by omega) (by unfold maxLen; omega) (by omega) (by simp; omega) _ rfl ?_; intro gn cap w5 o1 o2 o3 o4; have hS5 := (HSA.out.below (below_al hB5 (.cells (datCs Y ra rc ra' rc').toArray 25))).grown o2 (fun k e => (HOA.out.lt k e).1); have z3 : w5.cell? ⟨g5, 3, none⟩ = some u := hS5.2.2.2.2.2.cell 3; have zf := hS5.2.2.2.2.2.frozen 3))
            all_goals
              have HS9 := hide (hS5.set 3 (.slice (some ⟨gn, 0, none⟩) (i + 1) cap))
              have HO9 := hide (own_push (i := 3) (u' := .slice (some ⟨gn, 0, none⟩) (i + 1) cap) HOW.out HFL.out HLT.out HG5.out HSB.out HBA.out.size (below_al (HBA.out.trans (hB5.mono HBA.out.size)) _) hP4 (below_al (Below.refl _ _) _) o1 o2 o3)
              rw [← HXX.out] at HO9
              clear o1 o2 o3 o4 hB5 hB4 hP4 hzA hzB hzC hS5 z3 zf HS HRA HBA HSA HOA HOW HFL HBN HWB HCK2 HXX t0 t1 t2 t3 t4 d0 d1 d2 d3 d4 q3
              go_wp2_with fail
              go_roundw
              case rel => exact ⟨i + 1, _, by go_num, by omega, HS9, HO9⟩
              case measure => simp [intOf]; omega
          · obtain rfl : i = x := by omega
            obtain ⟨t0, t1, t2, t3, t4⟩ := row5 hST.out.2.2.2.2.2
            have f0 := hST.out.2.2.2.2.1.frozen 0
            have f1 := hST.out.2.2.2.2.1.frozen 1
            have f2 := hST.out.2.2.2.2.1.frozen 2
            have f3 := hST.out.2.2.2.2.1.frozen 3
            have f4 := hST.out.2.2.2.2.1.frozen 4
            obtain ⟨r0, r1, r2, r3, r4⟩ := row5 hST.out.2.2.2.2.1
            have HD := hide (show DZ b0 wr m u L by have := hO.out.dz (Nat.le_refl _); rw [← HLL.out, List.take_length] at this; exact this)
            clear hO
            obtain ⟨uA, uc, hu, _⟩ := HD.out
            subst hu
            go_wp2_with fail
            refine bodyPost_ret (results_dat rfl _ _ g4 _ _ _ _ _ rfl (row_set5 hST.out.2.2.2.2.1 _ _ _ _ _)) rfl ?_
            exact clean_fin hST.out HD.out (MZ.nil _ _ _) HE2.out _ _ _ _ _
      by_cases k6 : k = 6
      · subst k6
        have HE2 := hide (show r = mkD 6 0 ⟨#[]⟩ [] (sortK Prod.fst (ys.map fun x => (x.1, cleanF m (lv + 1) x.2))) by rw [HE.out]; rfl)
        obtain ⟨L, hL⟩ : ∃ L, L = ys.map fun x => (x.1, cleanF m (lv + 1) x.2) := ⟨_, rfl⟩
        rw [← hL] at HE2
        have HLL := Lib.hid (show L.length = y by rw [hL, List.length_map, HY.out])
        have HL := Lib.hid hL
        have HO := hide (show OwnM (PZ b0 (Value.slice none 0 0).ownBlock w3 m) w3 b0 (.slice none 0 0) (L.take 0) from ⟨[], World.ownsRow_nil _ _ _ _, rfl⟩)
        clear HE hL
        go_wp2_with fail
        go_loopw [9, 53] (fun _ iv wr => ∃ (i : Nat) (u : Value), iv = .int .i64 i ∧ i ≤ y ∧ Hid (CSt w g g4 g5 b0 [.int .i64 6, .int .i64 n, .string s, .slice A x c, .slice A' y c'] [.int .i64 0, .int .i64 0, .string ⟨#[]⟩, .slice none 0 0, .slice none 0 0] [.int .i64 6, .int .i64 0, .string ⟨#[]⟩, .slice none 0 0, u] wr) ∧ Hid (OwnM (PZ b0 u.ownBlock wr m) wr b0 u (L.take i))) (fun _ iv _ => y - (intOf iv).toNat)
        case atStart => exact ⟨0, _, rfl, Nat.zero_le _, HST, HO⟩
        case round =>
          clear HO HST s0 s1 s2 s3 s4 t0 t1 t2 t3 t4 f0 f1 f2 f3 f4 q1 q2 q3 q4 r0 r1 r2 r3 r4
          obtain ⟨i, u, rfl, hi, hST, hO⟩ := hrel
          by_cases hlt : i < y
          · have hlt' : i < ys.length := by rw [← HY.out]; exact hlt
            obtain ⟨ad, rfl, hb, hlab, a, q, a', q', hfive, hpts⟩ := HM.out i _ (List.getElem?_eq_getElem hlt')
            obtain ⟨X, hX⟩ : ∃ X, X = ys[i] := ⟨_, rfl⟩
            have hmem : X.2 ∈ xs ++ ys.map Prod.snd := List.mem_append.2 (.inr (List.mem_map.2 ⟨X, hX ▸ List.getElem_mem hlt', rfl⟩))
            rw [← hX] at hlab hfive hpts
            have hbb : (ad.add (i * 6)).block < w.heap.size := by rw [block_of_add]; exact hb
            obtain ⟨s0, s1, s2, s3, s4, s5⟩ := six_of ((hST.out.2.2.1.cell (p := ad.add (i * 6)) hbb).trans hlab) (hfive.same (p := ⟨_, _, none⟩) hbb (Same.of_below hST.out.2.2.1))
            have HXX := Lib.hid (show L.take (i + 1) = L.take i ++ [(X.1, cleanF m (lv + 1) X.2)] by
              have h1 : i < L.length := by rw [HLL.out]; exact hlt
              rw [List.take_add_one, List.getElem?_eq_getElem h1]
              have : L[i] = (X.1, cleanF m (lv + 1) X.2) := by
                have := HL.out; subst this; rw [List.getElem_map, hX]
              rw [this]; rfl)
            have HLT := Lib.hid (show (L.take i).length = i by rw [List.length_take, HLL.out]; omega)
            have HCK2 := hide fun W (hB : Below w.heap.size w W) => HCK.out W X.2 a q a' q' hmem hpts hB hlv3
            unfold CleanPost datV datCs at HCK2
            obtain ⟨Y, hY⟩ : ∃ Y, Y = cleanF m (lv + 1) X.2 := ⟨_, rfl⟩
            rw [← hY] at HCK2 HXX
            clear hY
            clear hfive hpts hX hlt' hb hbb hmem hlab
            obtain ⟨zs, ho, hf⟩ := hO.out
            rw [HLT.out] at ho
            have HOW := hide ho; have HFL := hide hf
            clear ho hf hO
            go_upto_region 20 with fail
            obtain ⟨wa, b, e1, e2, hBa, hRa⟩ := boxM wr X a q a' q'
            rw [e1, e2]
            have HSA := hide (hST.out.below hBa)
            have HBA := hide hBa
            have hbg : b ≠ g5 := by have := hST.out.1; have := hST.out.2.1; omega
            obtain ⟨t0, t1, t2, t3, t4⟩ := row5 HSA.out.2.2.2.2.2
            have q4 := HSA.out.2.2.2.2.2.frozen 4
            obtain ⟨d0, d1, d2, d3, d4, d5⟩ := row6 hRa
            have HS := hide fun W (h : Below wa.heap.size wa W) => (row6 (hRa.below h)).1
            have hb0a : b0 ≤ wa.heap.size := HSA.out.2.1
            have HSB := hide hST.out.2.1
            have HG5 := hide (show g5 < b0 by have := hST.out.1; omega)
            have HOA := hide (show wa.ownsRow b0 57 6 u i zs from own_below HOW.out hBa)
            have HWB := hide fun W (h : Below wa.heap.size wa W) => (hST.out.2.2.1.trans ((hBa.trans (h.mono hBa.size)).mono hST.out.2.2.1.size))
            clear e1 e2 hBa hRa s0 s1 s2 s3 s4 s5 hST
            go_region_law (first
                | (go_simp; go_at_call 45; refine (HCK2.out _ (HWB.out _ (Below.refl _ _).drew)).mono ?_; rintro e w4 ⟨ra, rc, ra', rc', rfl, hB4, hP4⟩; have hB5 := (Below.refl wa.heap.size wa).drew.trans hB4; have hzA : w4.cell? ⟨g5, 4, none⟩ = some u := (HSA.out.below hB5).2.2.2.2.2.cell 4; have hzB : ∀ o, (w4.alloc o).cell? ⟨g5, 4, none⟩ = some u := fun o => (HSA.out.below (below_al hB5 o)).2.2.2.2.2.cell 4; have hzC := hB5.size; have hzD := HS.out _ hB5)
                | (refine step_append_lies _ rfl (.tmp 58) (.tmp 67) _ rfl b0 57 i1 _ 6 96 Tryz.underlying23 hi1 hy0 hy1 hy2 rfl (by omega) u i zs rfl ((own_below HOA.out hB5).alloc _) ⟨w4.heap.size, 0, none⟩ 1 1 (.string X.1 :: datCs Y ra rc ra' rc') rfl rfl (World.news_of_block (heap_alloc_new _ _)) memCs_one (by omega) (by unfold maxLen; omega) (by omega) (by simp; omega) _ rfl ?_; intro gn cap w5 o1 o2 o3 o4; have hS5 := (HSA.out.below (below_al hB5 (.cells (.string X.1 :: datCs Y ra rc ra' rc').toArray 57))).grown o2 (fun k e => (HOA.out.lt k e).1); have z3 : w5.cell? ⟨g5, 4, none⟩ = some u := hS5.2.2.2.2.2.cell 4; have zf := hS5.2.2.2.2.2.frozen 4))
            all_goals
              have HS9 := hide (hS5.set 4 (.slice (some ⟨gn, 0, none⟩) (i + 1) cap))
              have HO9 := hide (own_pushM (r := (X.1, Y)) (i := 4) (u' := .slice (some ⟨gn, 0, none⟩) (i + 1) cap) HOW.out HFL.out HLT.out HG5.out HSB.out HBA.out.size (below_al (HBA.out.trans (hB5.mono HBA.out.size)) _) hP4 (below_al (Below.refl _ _) _) o1 o2 o3)
              rw [← HXX.out] at HO9
              clear o1 o2 o3 o4 hB5 hB4 hP4 hzA hzB hzC hzD hS5 z3 zf HS HBA HSA HOA HOW HFL HWB HCK2 HXX t0 t1 t2 t3 t4 d0 d1 d2 d3 d4 d5 q4
              go_wp2_with fail
              go_roundw
              case rel => exact ⟨i + 1, _, by go_num, by omega, HS9, HO9⟩
              case measure => simp [intOf]; omega
          · obtain rfl : i = y := by omega
            obtain ⟨t0, t1, t2, t3, t4⟩ := row5 hST.out.2.2.2.2.2
            have hcs := hO.out
            rw [show L.take i = L by rw [← HLL.out, List.take_length]] at hcs
            have HCS := hide (clean_sort hcs (by rw [HLL.out]; omega))
            clear hO hcs
            go_wp2_with fail
            refine HCS.out.mono ?_; rintro e w4 ⟨rfl, row, hG, hrow, hMZ⟩
            have HS4 := hide (hST.out.grown hG hrow)
            have HMZ := hide hMZ
            clear hG hrow hMZ HCS hST t0 t1 t2 t3 t4
            obtain ⟨t0, t1, t2, t3, t4⟩ := row5 HS4.out.2.2.2.2.2
            have f0 := HS4.out.2.2.2.2.1.frozen 0
            have f1 := HS4.out.2.2.2.2.1.frozen 1
            have f2 := HS4.out.2.2.2.2.1.frozen 2
            have f3 := HS4.out.2.2.2.2.1.frozen 3
            have f4 := HS4.out.2.2.2.2.1.frozen 4
            obtain ⟨r0, r1, r2, r3, r4⟩ := row5 HS4.out.2.2.2.2.1
            obtain ⟨uA, uc, hu, _⟩ := HMZ.out
            subst hu
            go_wp2_with fail
            refine bodyPost_ret (results_dat rfl _ _ g4 _ _ _ _ _ rfl (row_set5 HS4.out.2.2.2.2.1 _ _ _ _ _)) rfl ?_
            exact clean_fin HS4.out (DZ.nil _ _ _) HMZ.out HE2.out _ _ _ _ _
      · have d2 : (k == 2) = false := by simpa using k2
        have d3 : (k == 3) = false := by simpa using k3
        have d4 : (k == 4) = false := by simpa using k4
        have d5 : (k == 5) = false := by simpa using k5
        have d6 : (k == 6) = false := by simpa using k6
        have HE2 := hide (show r = mkD k 0 ⟨#[]⟩ [] [] by rw [HE.out, if_neg (by omega), if_neg k4, if_neg k5, if_neg k6])
        clear HE k2 k3 k4 k5 k6
        go_wp2_with fail
        refine bodyPost_ret (results_dat rfl _ _ g4 _ _ _ _ _ rfl (row_set5 HST.out.2.2.2.2.1 _ _ _ _ _)) rfl ?_
        exact clean_fin HST.out (DZ.nil _ _ _) (MZ.nil _ _ _) HE2.out _ _ _ _ _
end Go.Proofs.YtmmbbndoimleaaaGreatDoor

/- Make. -/
namespace Go.Proofs.YtmmbbndoimleaaaGreatDoor
open Go.RowKit

theorem fitC_of_parts {w : World} {B : Nat} : ∀ (m : Nat) {d : Dt} {A c A' c'} (r : Nat), Parts w B m d A c A' c' → partsF m d ≤ 40 → FitC r d
  | _, _, _, _, _, _, 0, _, _ => trivial
  | 0, _, _, _, _, _, _ + 1, h, _ => h.elim
  | m + 1, d, A, c, A', c', r + 1, h, hle => by
    refine ⟨by have h2 := kids_le h; unfold kids at h2; rw [List.length_append, List.length_map] at h2; omega, fun x hx => ?_⟩
    obtain ⟨a, q, a', q', hp⟩ := parts_kid h hx
    exact fitC_of_parts m r hp (by have := parts_kid_le (m := m) hx; omega)
theorem fitD_of_fitC : ∀ (r : Nat) {d : Dt}, FitC r d → FitD r d
  | 0, _, _ => trivial
  | r + 1, d, h => ⟨by have h2 := h.1; unfold kids; rw [List.length_append, List.length_map]; omega, fun x hx => fitD_of_fitC r (h.2 x hx)⟩
theorem fitC_zero (r : Nat) : FitC r zeroD := by
  cases r with
  | zero => trivial
  | succ r => exact ⟨by simp [zeroD], fun x hx => by simp [kids, zeroD] at hx⟩
theorem kids_mk (k n : Int) (s : ByteArray) (l : List Dt) (ms : List (ByteArray × Dt)) : kids (mkD k n s l ms) = l ++ ms.map Prod.snd := by unfold kids; rw [iD_mk, mD_mk]
/-- A kid of the cleaned data is a cleaned kid. -/
theorem clean_kid {m : Nat} {lv : Int} {d x : Dt} (h : x ∈ kids (cleanF (m + 1) lv d)) : ∃ y ∈ kids d, x = cleanF m (lv + 1) y := by
  unfold cleanF at h
  split at h
  · rw [kids_mk] at h; simp at h
  · rw [kids_mk] at h
    rcases List.mem_append.1 h with h | h
    · split at h
      · obtain ⟨y, hy, rfl⟩ := List.mem_map.1 h; exact ⟨y, is_kid hy, rfl⟩
      · cases h
    · obtain ⟨z, hz, rfl⟩ := List.mem_map.1 h
      split at hz
      · have := (sortK_ok (k := Prod.fst) _).2.mem hz
        obtain ⟨y, hy, rfl⟩ := List.mem_map.1 this
        exact ⟨y.2, ms_kid hy, rfl⟩
      · cases hz
theorem clean_kids_length (m : Nat) (lv : Int) (d : Dt) : (iD (cleanF (m + 1) lv d)).length ≤ (iD d).length ∧ (mD (cleanF (m + 1) lv d)).length ≤ (mD d).length := by
  unfold cleanF
  split
  · rw [iD_mk, mD_mk]; simp
  · rw [iD_mk, mD_mk]
    constructor
    · split <;> simp
    · split
      · rw [sortK_length, List.length_map]; exact Nat.le_refl _
      · simp
theorem fitC_clean : ∀ (r m : Nat) (lv : Int) {d : Dt}, FitC r d → FitC r (cleanF m lv d)
  | 0, _, _, _, _ => trivial
  | r + 1, 0, _, _, _ => fitC_zero (r + 1)
  | r + 1, m + 1, lv, d, h => ⟨⟨Nat.le_trans (clean_kids_length m lv d).1 h.1.1, Nat.le_trans (clean_kids_length m lv d).2 h.1.2⟩, fun x hx => by
    obtain ⟨y, hy, rfl⟩ := clean_kid hx
    exact fitC_clean r m (lv + 1) (h.2 y hy)⟩

theorem set5_size (w : World) (g : Nat) (a b c d e : Value) : (set5 w g a b c d e).heap.size = w.heap.size := by unfold set5; simp only [csize_set]
theorem set5_heap (w : World) (g : Nat) (a b c d e : Value) {k : Nat} (hk : k ≠ g) : (set5 w g a b c d e).heap[k]? = w.heap[k]? := by
  unfold set5
  rw [Below.heap_setCell _ _ _ _ hk, Below.heap_setCell _ _ _ _ hk, Below.heap_setCell _ _ _ _ hk, Below.heap_setCell _ _ _ _ hk, Below.heap_setCell _ _ _ _ hk]
/-- Fresh data stands behind stores to an elder block. -/
theorem pz_set5 {lo m : Nat} {w W : World} {r : Dt} {a c a' c'} (h : PZ lo none w m r a c a' c') (hb : Below w.heap.size w W) {g : Nat} (hg : g < lo) (x0 x1 x2 x3 x4 : Value) : Parts (set5 W g x0 x1 x2 x3 x4) (set5 W g x0 x1 x2 x3 x4).heap.size m r a c a' c' :=
  h _ (by rw [set5_size]; exact hb.size) fun k k1 k2 _ => by rw [set5_heap _ _ _ _ _ _ _ (by omega)]; exact hb.block k k2
def MakePost (w : World) (m : Nat) (r : Dt) (e : Ending) (w' : World) : Prop :=
  ∃ X a q a' q', e = .returned (.tuple #[datV X a q a' q', .int .i64 (checkD r)]) ∧ X = (if checkD r = 0 then r else zeroD) ∧ Parts w' w'.heap.size m X a q a' q' ∧ Below w.heap.size w w'

/-- Fresh data stands behind stores to an elder block, and is fresh still. -/
theorem pz_set5Z {lo lo' m : Nat} {w W : World} {r : Dt} {a c a' c'} (h : PZ lo none w m r a c a' c') (hb : Below w.heap.size w W) {g : Nat} (hg : g < lo) (hl : lo' ≤ lo) (x0 x1 x2 x3 x4 : Value) : PZ lo' none (set5 W g x0 x1 x2 x3 x4) m r a c a' c' :=
  h.turn (by rw [set5_size]; exact hb.size) fun k k1 k2 _ => ⟨by rw [set5_heap _ _ _ _ _ _ _ (by omega)]; exact hb.block k k2, by omega, by simp⟩
def MakePostZ (w : World) (m : Nat) (r : Dt) (e : Ending) (w' : World) : Prop :=
  ∃ X a q a' q', e = .returned (.tuple #[datV X a q a' q', .int .i64 (checkD r)]) ∧ X = (if checkD r = 0 then r else zeroD) ∧ PZ w.heap.size none w' m X a q a' q' ∧ Below w.heap.size w w'

set_option maxRecDepth 20000 in
set_option maxHeartbeats 1000000 in
theorem Make_runZ (m : Nat) (d : Dt) (A : Option Addr) (c : Nat) (A' : Option Addr) (c' : Nat) (w : World) (hp : Parts w w.heap.size m d A c A' c') (hf : ∀ r, FitC r d) :
    Calls Tryz.prog 26 #[datV d A c A' c'] w (MakePostZ w m (cleanF m 1 d)) := by
  have HCL := hide fun w' (hB : Below w.heap.size w w') => clean_run m d A c A' c' 1 w' (hp.turn (Same.of_below hB) hB.size) (hf m) (by omega) (by omega)
  obtain ⟨m', rfl⟩ : ∃ m', m = m' + 1 := by
    cases m with
    | zero => exact hp.elim
    | succ m => exact ⟨m, rfl⟩
  obtain ⟨r, hr⟩ : ∃ r, r = cleanF (m' + 1) 1 d := ⟨_, rfl⟩
  have hfr : FitD 16 r := by rw [hr]; exact fitD_of_fitC 16 (fitC_clean 16 (m' + 1) 1 (hf 16))
  rw [← hr] at HCL ⊢
  have HCK := hide fun a q a' q' W (hP : Parts W W.heap.size (m' + 1) r a q a' q') => Check_run (m' + 1) r a q a' q' W hP hfr
  obtain ⟨z, hz⟩ : ∃ z, z = checkD r := ⟨_, rfl⟩
  rw [← hz] at HCK
  have HZ := Lib.hid hz
  unfold CleanPost datV datCs at HCL
  unfold datV datCs at HCK
  unfold datV datCs
  obtain ⟨k, hk⟩ : ∃ k, k = kD d := ⟨_, rfl⟩
  obtain ⟨n, hn⟩ : ∃ k, k = nD d := ⟨_, rfl⟩
  obtain ⟨s, hs⟩ : ∃ k, k = sD d := ⟨_, rfl⟩
  obtain ⟨x, hx⟩ : ∃ k, k = (iD d).length := ⟨_, rfl⟩
  obtain ⟨y, hy⟩ : ∃ k, k = (mD d).length := ⟨_, rfl⟩
  rw [← hk, ← hn, ← hs, ← hx, ← hy] at HCL ⊢
  clear hp hf hk hn hs hx hy hr hfr hz
  go_enter Tryz.func26, Tryz.ntmps26
  go_upto_region 1 with fail
  obtain ⟨w1, g, e1, e2, hB1, _, _, _, _, _, hR1⟩ := boxD w k n s (.slice A x c) (.slice A' y c')
  obtain ⟨w2, g2, e3, e4, hB2, _, _, _, _, _, hR2⟩ := boxD w1 0 0 ⟨#[]⟩ (.slice none 0 0) (.slice none 0 0)
  have e5 : g + 1 = g2 := by rw [← e4, ← e1, ← e2]; simp
  rw [e1, e2, e3, e5]
  have HB2 := hide (hB1.trans (hB2.mono hB1.size))
  have HG2 := hide (show w.heap.size ≤ g2 by omega)
  have HG3 := hide (show g2 < w2.heap.size from hR2.lt)
  obtain ⟨s0, s1, s2, s3, s4⟩ := row5 (hR1.below hB2)
  have HR2 := hide hR2
  clear e1 e2 e3 e4 e5 hB1 hB2 hR1 hR2
  go_wp2_with (refine (HCL.out _ HB2.out).mono ?_; rintro e w3 ⟨ra, rc, ra', rc', rfl, hB3, hP3⟩; have HB3 := hide hB3; have HPZ := hide hP3; clear hB3 hP3)
  obtain ⟨w4, g4, e1, e2, hB4, _, _, _, _, _, hR4⟩ := boxD w3 (kD r) (nD r) (sD r) (.slice ra (iD r).length rc) (.slice ra' (mD r).length rc')
  rw [e1, e2]
  have HB4 := hide (HB3.out.trans (hB4.mono HB3.out.size))
  have HP4 := hide (HPZ.out.parts.turn (Same.of_below hB4) hB4.size)
  have HW4 := hide hB4
  have HR4 := hide hR4
  clear e1 e2 hB4 hR4 HB3 s0 s1 s2 s3 s4 HCL
  refine (HCK.out ra rc ra' rc' _ HP4.out).mono ?_; rintro e w5 ⟨rfl, hB5⟩
  have HB5 := hide (HB4.out.trans (hB5.mono HB4.out.size))
  have HW5 := hide (HW4.out.trans (hB5.mono HW4.out.size))
  have HBL := hide (HB2.out.trans (HB5.out.mono HB2.out.size))
  have HR := hide (HR2.out.below HB5.out)
  obtain ⟨s0, s1, s2, s3, s4⟩ := row5 (HR4.out.below hB5)
  obtain ⟨r0, r1, r2, r3, r4⟩ := row5 HR.out
  have f0 := HR.out.frozen 0
  have f1 := HR.out.frozen 1
  have f2 := HR.out.frozen 2
  have f3 := HR.out.frozen 3
  have f4 := HR.out.frozen 4
  clear hB5 HP4 HB4 HR4 HR2 HCK
  by_cases hz : z = 0
  · subst hz
    have HZ2 := hide (show r = if checkD r = 0 then r else zeroD by rw [if_pos HZ.out.symm])
    go_wp2_with fail
    refine bodyPost_ret (results_dat2 rfl _ _ g2 _ _ _ _ _ rfl (row_set5 HR.out _ _ _ _ _)) rfl ?_
    exact ⟨r, ra, rc, ra', rc', by rw [← HZ.out]; rfl, HZ2.out, pz_set5Z HPZ.out HW5.out HG3.out HB2.out.size _ _ _ _ _, below_set5 HBL.out HG2.out _ _ _ _ _⟩
  · have g0 : (z != 0) = true := by simpa using hz
    have HZ2 := hide (show zeroD = if checkD r = 0 then r else zeroD by rw [if_neg (by rw [← HZ.out]; exact hz)])
    go_wp2_with fail
    refine bodyPost_ret (results_dat2 rfl _ _ g2 _ _ _ _ _ rfl (row_set5 HR.out _ _ _ _ _)) rfl ?_
    exact ⟨zeroD, none, 0, none, 0, by rw [← HZ.out]; rfl, HZ2.out, fun _ _ _ => zero_parts _ _ _, below_set5 HBL.out HG2.out _ _ _ _ _⟩
theorem Make_run (m : Nat) (d : Dt) (A : Option Addr) (c : Nat) (A' : Option Addr) (c' : Nat) (w : World) (hp : Parts w w.heap.size m d A c A' c') (hf : ∀ r, FitC r d) :
    Calls Tryz.prog 26 #[datV d A c A' c'] w (MakePost w m (cleanF m 1 d)) :=
  (Make_runZ m d A c A' c' w hp hf).mono fun _ _ ⟨X, a, q, a', q', h1, h2, h3, h4⟩ => ⟨X, a, q, a', q', h1, h2, h3.parts, h4⟩
end Go.Proofs.YtmmbbndoimleaaaGreatDoor

/- Reading JSON, plain: values. -/
namespace Go.Proofs.YtmmbbndoimleaaaGreatDoor
open Go.RowKit

/-- Elements up to a closing byte, so many at most. -/
def sevL {α : Type} (S : ByteArray) (e : Nat) (step : α → Nat → Except Flt (α × Nat)) : Nat → α → Nat → Except Flt (α × Nat)
  | 0, _, i => .error (19, i)
  | n + 1, x, i => match step x (blk S i) with
    | .error f => .error f
    | .ok (y, j) => if nx S (blk S j) = e then .ok (y, blk S j + 1) else match wordF S [44] (blk S j) with
      | .error f => .error f
      | .ok k => sevL S e step n y k
def sevR {α : Type} (S : ByteArray) (e : Nat) (step : α → Nat → Except Flt (α × Nat)) (x : α) (i : Nat) : Except Flt (α × Nat) := sevL S e step (S.size + 1 - i) x i
def sevF {α : Type} (S : ByteArray) (e : Nat) (step : α → Nat → Except Flt (α × Nat)) (x : α) (i : Nat) : Except Flt (α × Nat) :=
  if nx S (blk S (i + 1)) = e then .ok (x, blk S (i + 1) + 1) else sevR S e step x (blk S (i + 1))
/-- A step goes on. -/
def Gain {α : Type} (S : ByteArray) (step : α → Nat → Except Flt (α × Nat)) : Prop := ∀ x i y j, step x i = .ok (y, j) → i < j ∧ j ≤ S.size
theorem word1 {S : ByteArray} {c : UInt8} {i k : Nat} (hc : c.toNat ≠ 0) (h : wordF S [c] i = .ok k) : k = i + 1 ∧ i < S.size := by
  unfold wordF at h
  split at h
  · rename_i he
    injection h with h
    exact ⟨h.symm, nx_in (by rw [he]; exact hc)⟩
  · cases h
theorem word_in {S : ByteArray} : ∀ {l : List UInt8} {i j : Nat}, wordF S l i = .ok j → (∀ c ∈ l, c.toNat ≠ 0) → l ≠ [] → j ≤ S.size
  | [], _, _, _, _, h => absurd rfl h
  | [c], i, j, h, hc, _ => by have := word1 (hc c (by simp)) h; omega
  | c :: d :: l, i, j, h, hc, _ => by
    unfold wordF at h
    split at h
    · exact word_in h (fun x hx => hc x (List.mem_cons_of_mem _ hx)) (by simp)
    · cases h
section
variable {α : Type} {S : ByteArray} {e : Nat} {step : α → Nat → Except Flt (α × Nat)}
theorem sevL_fuel (hg : Gain S step) : ∀ (m n : Nat) (x : α) (i : Nat), S.size + 1 - i ≤ m → m ≤ n → i ≤ S.size → sevL S e step n x i = sevL S e step m x i
  | 0, n, x, i, h, _, hi => by omega
  | m + 1, 0, _, _, _, h, _ => by omega
  | m + 1, n + 1, x, i, h, hn, hi => by
    unfold sevL
    cases hs : step x (blk S i) with
    | error f => rfl
    | ok p =>
      obtain ⟨y, j⟩ := p
      obtain ⟨g1, g2⟩ := hg _ _ _ _ hs
      have g3 : i ≤ blk S i := run_ge _ _ _
      have g4 : j ≤ blk S j := run_ge _ _ _
      simp only
      split
      · rfl
      cases hw : wordF S [44] (blk S j) with
      | error f => rfl
      | ok k =>
        obtain ⟨g5, g6⟩ := word1 (by decide) hw
        exact sevL_fuel hg m n y k (by omega) (by omega) (by omega)
theorem sevR_eq (hg : Gain S step) (x : α) {i : Nat} (hi : i ≤ S.size) : sevR S e step x i = match step x (blk S i) with
    | .error f => .error f
    | .ok (y, j) => if nx S (blk S j) = e then .ok (y, blk S j + 1) else match wordF S [44] (blk S j) with
      | .error f => .error f
      | .ok k => sevR S e step y k := by
  unfold sevR
  rw [show S.size + 1 - i = (S.size - i) + 1 by omega, sevL]
  cases hs : step x (blk S i) with
  | error f => rfl
  | ok p =>
    obtain ⟨y, j⟩ := p
    obtain ⟨g1, g2⟩ := hg _ _ _ _ hs
    have g3 : i ≤ blk S i := run_ge _ _ _
    have g4 : j ≤ blk S j := run_ge _ _ _
    simp only
    split
    · rfl
    cases hw : wordF S [44] (blk S j) with
    | error f => rfl
    | ok k =>
      obtain ⟨g5, g6⟩ := word1 (by decide) hw
      exact sevL_fuel hg (S.size + 1 - k) (S.size - i) y k (by omega) (by omega) (by omega)
theorem sevL_inv {Q : α → Nat → Prop} (hQ : ∀ x i y j, Q x i → step x i = .ok (y, j) → Q y j) (hm : ∀ x i j, i ≤ j → Q x i → Q x j) (he : e ≠ 0) (hg : Gain S step) :
    ∀ (n : Nat) (x : α) (i : Nat) (y : α) (j : Nat), Q x i → sevL S e step n x i = .ok (y, j) → Q y j ∧ i < j ∧ j ≤ S.size
  | 0, _, _, _, _, _, h => by unfold sevL at h; cases h
  | n + 1, x, i, y, j, hx, h => by
    unfold sevL at h
    have g3 : i ≤ blk S i := run_ge _ _ _
    cases hs : step x (blk S i) with
    | error f => rw [hs] at h; cases h
    | ok p =>
      obtain ⟨z, k⟩ := p
      rw [hs] at h
      simp only at h
      obtain ⟨g1, g2⟩ := hg _ _ _ _ hs
      have g4 : k ≤ blk S k := run_ge _ _ _
      have hz := hQ _ _ _ _ (hm _ _ _ g3 hx) hs
      split at h
      · rename_i hn
        have g5 : blk S k < S.size := nx_in (by rw [hn]; exact he)
        injection h with h
        injection h with h1 h2
        subst h1; subst h2
        exact ⟨hm _ _ _ (by omega) hz, by omega, by omega⟩
      cases hw : wordF S [44] (blk S k) with
      | error f => rw [hw] at h; cases h
      | ok q =>
        rw [hw] at h
        obtain ⟨g5, g6⟩ := word1 (by decide) hw
        obtain ⟨h1, h2, h3⟩ := sevL_inv hQ hm he hg n z q y j (hm _ _ _ (by omega) hz) h
        exact ⟨h1, by omega, h3⟩
theorem sev_inv {Q : α → Nat → Prop} (hQ : ∀ x i y j, Q x i → step x i = .ok (y, j) → Q y j) (hm : ∀ x i j, i ≤ j → Q x i → Q x j) (he : e ≠ 0) (hg : Gain S step) {x : α} {i : Nat} {y : α} {j : Nat}
    (hx : Q x i) (h : sevF S e step x i = .ok (y, j)) : Q y j ∧ i < j ∧ j ≤ S.size := by
  have g3 : i + 1 ≤ blk S (i + 1) := run_ge _ _ _
  unfold sevF at h
  split at h
  · rename_i hn
    have g5 : blk S (i + 1) < S.size := nx_in (by rw [hn]; exact he)
    injection h with h
    injection h with h1 h2
    subst h1; subst h2
    exact ⟨hm _ _ _ (by omega) hx, by omega, by omega⟩
  · obtain ⟨h1, h2, h3⟩ := sevL_inv hQ hm he hg _ _ _ _ _ (hm _ _ _ (by omega) hx) h
    exact ⟨h1, by omega, h3⟩
end
/-- One more item. -/
def itemS (v : Nat → Except Flt (Dt × Nat)) (l : List Dt) (i : Nat) : Except Flt (List Dt × Nat) := match v i with
  | .error f => .error f
  | .ok (d, j) => .ok (l ++ [d], j)
/-- One more member. -/
def memS (S : ByteArray) (v : Nat → Except Flt (Dt × Nat)) (l : List (ByteArray × Dt)) (i : Nat) : Except Flt (List (ByteArray × Dt) × Nat) := match strF S i with
  | .error f => .error f
  | .ok (s, j) => if (l.any fun m => m.1.toList == s.toList) = true then .error (6, i) else match wordF S [58] (blk S j) with
    | .error f => .error f
    | .ok k => match v (blk S k) with
      | .error f => .error f
      | .ok (d, q) => .ok (l ++ [(s, d)], q)
abbrev leafD (k n : Int) (s : ByteArray) : Dt := mkD k n s [] []
/-- A value. -/
def valF (S : ByteArray) : Nat → Nat → Except Flt (Dt × Nat)
  | 0, i => .error (19, i)
  | n + 1, i =>
    if nx S i = 110 then match wordF S [110, 117, 108, 108] i with
      | .error f => .error f
      | .ok j => .ok (leafD 1 0 ⟨#[]⟩, j)
    else if nx S i = 116 then match wordF S [116, 114, 117, 101] i with
      | .error f => .error f
      | .ok j => .ok (leafD 2 1 ⟨#[]⟩, j)
    else if nx S i = 102 then match wordF S [102, 97, 108, 115, 101] i with
      | .error f => .error f
      | .ok j => .ok (leafD 2 0 ⟨#[]⟩, j)
    else if nx S i = 34 then match strF S i with
      | .error f => .error f
      | .ok (s, j) => .ok (leafD 4 0 s, j)
    else if nx S i = 45 ∨ digB (nx S i) = true then match numE S i with
      | .error f => .error f
      | .ok (u, j) => .ok (leafD 3 u ⟨#[]⟩, j)
    else if nx S i = 91 then match sevF S 93 (itemS (valF S n)) [] i with
      | .error f => .error f
      | .ok (l, j) => .ok (mkD 5 0 ⟨#[]⟩ l [], j)
    else if nx S i = 123 then match sevF S 125 (memS S (valF S n)) [] i with
      | .error f => .error f
      | .ok (l, j) => .ok (mkD 6 0 ⟨#[]⟩ [] l, j)
    else .error (19, i)
theorem strL_gain {S : ByteArray} : ∀ {n i : Nat} {o T : ByteArray} {j : Nat}, strL S n i o = .ok (T, j) → i < j ∧ j ≤ S.size
  | 0, _, _, _, _, h => by unfold strL at h; cases h
  | n + 1, i, o, T, j, h => by
    unfold strL at h
    split at h
    · rename_i hn
      have := nx_in (S := S) (i := i) (by rw [hn]; decide)
      injection h with h; injection h with h1 h2; omega
    split at h
    · cases he : escF S i with
      | error f => rw [he] at h; cases h
      | ok p =>
        obtain ⟨c, k⟩ := p
        rw [he] at h
        have := esc_ok he
        have := strL_gain h
        omega
    split at h
    · cases h
    · have := strL_gain h
      omega
theorem str_gain {S : ByteArray} {i : Nat} {T : ByteArray} {j : Nat} (h : strF S i = .ok (T, j)) : i < j ∧ j ≤ S.size := by
  unfold strF at h
  cases hw : wordF S [34] i with
  | error f => rw [hw] at h; cases h
  | ok k =>
    rw [hw] at h
    obtain ⟨g5, g6⟩ := word1 (by decide) hw
    have := strL_gain h
    omega
theorem dig_in {S : ByteArray} {i : Nat} (h : digB (nx S i) = true) : i < S.size := nx_in fun e => by rw [e] at h; cases h
theorem num_gain {S : ByteArray} {i : Nat} {u : Int} {j : Nat} (h : numE S i = .ok (u, j)) : i < j ∧ j ≤ S.size := by
  unfold numE at h
  obtain ⟨a, ha⟩ : ∃ a, a = if nx S i = 45 then i + 1 else i := ⟨_, rfl⟩
  have ha2 : i ≤ a := by rw [ha]; split <;> omega
  rw [← ha] at h
  simp only at h
  split at h
  · cases h
  rename_i hd
  have hd : digB (nx S a) = true := by simpa using hd
  have hin := dig_in hd
  obtain ⟨b, hb⟩ : ∃ b, b = if nx S a = 48 then a + 1 else dge S a := ⟨_, rfl⟩
  have hb2 : a < b ∧ b ≤ S.size := by
    rw [hb]
    split
    · omega
    · have h1 := run_step (q := digB) rfl hd
      have h2 := run_ge digB S (a + 1)
      have h3 := run_le digB (S := S) (i := a) (by omega)
      show a < runF digB S a ∧ runF digB S a ≤ S.size
      omega
  rw [← hb] at h
  split at h
  · cases h
  rename_i hf
  obtain ⟨e, he⟩ : ∃ e, e = if nx S b = 46 then dge S (b + 1) else b := ⟨_, rfl⟩
  rw [← he] at h
  split at h
  · cases h
  split at h
  · cases h
  injection h with h
  injection h with h1 h2
  subst h2
  split at he
  · rename_i h46
    have g1 : digB (nx S (b + 1)) = true := by
      cases hq : digB (nx S (b + 1)) with
      | true => rfl
      | false => exact absurd ⟨h46, hq⟩ hf
    have g2 := dig_in g1
    have h3 := run_ge digB S (b + 1)
    have h4 := run_le digB (S := S) (i := b + 1) (by omega)
    have h5 : dge S (b + 1) = runF digB S (b + 1) := rfl
    omega
  · omega
theorem item_gain {S : ByteArray} {v : Nat → Except Flt (Dt × Nat)} (hv : ∀ i d j, v i = .ok (d, j) → i < j ∧ j ≤ S.size) : Gain S (itemS v) := fun x i y j h => by
  unfold itemS at h
  cases hq : v i with
  | error f => rw [hq] at h; cases h
  | ok p =>
    obtain ⟨d, k⟩ := p
    rw [hq] at h
    injection h with h; injection h with h1 h2
    have := hv _ _ _ hq
    omega
theorem mem_gain {S : ByteArray} {v : Nat → Except Flt (Dt × Nat)} (hv : ∀ i d j, v i = .ok (d, j) → i < j ∧ j ≤ S.size) : Gain S (memS S v) := fun x i y j h => by
  unfold memS at h
  cases hs : strF S i with
  | error f => rw [hs] at h; cases h
  | ok p =>
    obtain ⟨s, a⟩ := p
    rw [hs] at h
    have g1 := str_gain hs
    have g2 : a ≤ blk S a := run_ge _ _ _
    simp only at h
    split at h
    · cases h
    cases hw : wordF S [58] (blk S a) with
    | error f => rw [hw] at h; cases h
    | ok k =>
      rw [hw] at h
      obtain ⟨g5, g6⟩ := word1 (by decide) hw
      have g3 : k ≤ blk S k := run_ge _ _ _
      simp only at h
      cases hq : v (blk S k) with
      | error f => rw [hq] at h; cases h
      | ok p =>
        obtain ⟨d, q⟩ := p
        rw [hq] at h
        injection h with h; injection h with h1 h2
        have := hv _ _ _ hq
        omega
/-- What value reads: it goes on, and no list is longer than the text. -/
theorem val_gain {S : ByteArray} : ∀ (n : Nat) {i : Nat} {d : Dt} {j : Nat}, valF S n i = .ok (d, j) → i < j ∧ j ≤ S.size
  | 0, _, _, _, h => by unfold valF at h; cases h
  | n + 1, i, d, j, h => by
    have hI := item_gain (S := S) (v := valF S n) fun _ _ _ h => val_gain n h
    have hM := mem_gain (S := S) (v := valF S n) fun _ _ _ h => val_gain n h
    unfold valF at h
    split at h
    · cases hw : wordF S [110, 117, 108, 108] i with
      | error f => rw [hw] at h; cases h
      | ok k =>
        rw [hw] at h
        injection h with h; injection h with h1 h2
        have g1 := word_len hw
        have g2 := word_in hw (by decide) (by simp)
        simp at g1
        omega
    split at h
    · cases hw : wordF S [116, 114, 117, 101] i with
      | error f => rw [hw] at h; cases h
      | ok k =>
        rw [hw] at h
        injection h with h; injection h with h1 h2
        have g1 := word_len hw
        have g2 := word_in hw (by decide) (by simp)
        simp at g1
        omega
    split at h
    · cases hw : wordF S [102, 97, 108, 115, 101] i with
      | error f => rw [hw] at h; cases h
      | ok k =>
        rw [hw] at h
        injection h with h; injection h with h1 h2
        have g1 := word_len hw
        have g2 := word_in hw (by decide) (by simp)
        simp at g1
        omega
    split at h
    · cases hs : strF S i with
      | error f => rw [hs] at h; cases h
      | ok p =>
        obtain ⟨s, k⟩ := p
        rw [hs] at h
        injection h with h; injection h with h1 h2
        have := str_gain hs
        omega
    split at h
    · cases hs : numE S i with
      | error f => rw [hs] at h; cases h
      | ok p =>
        obtain ⟨u, k⟩ := p
        rw [hs] at h
        injection h with h; injection h with h1 h2
        have := num_gain hs
        omega
    split at h
    · cases hs : sevF S 93 (itemS (valF S n)) [] i with
      | error f => rw [hs] at h; cases h
      | ok p =>
        obtain ⟨l, k⟩ := p
        rw [hs] at h
        injection h with h; injection h with h1 h2
        have := (sev_inv (Q := fun _ _ => True) (fun _ _ _ _ _ _ => trivial) (fun _ _ _ _ _ => trivial) (by decide) hI trivial hs).2
        omega
    split at h
    · cases hs : sevF S 125 (memS S (valF S n)) [] i with
      | error f => rw [hs] at h; cases h
      | ok p =>
        obtain ⟨l, k⟩ := p
        rw [hs] at h
        injection h with h; injection h with h1 h2
        have := (sev_inv (Q := fun _ _ => True) (fun _ _ _ _ _ _ => trivial) (fun _ _ _ _ _ => trivial) (by decide) hM trivial hs).2
        omega
    · cases h
theorem fitC_leaf (k n : Int) (s : ByteArray) (r : Nat) : FitC r (leafD k n s) := by
  cases r with
  | zero => trivial
  | succ r => exact ⟨⟨by simp, by simp⟩, fun x hx => by rw [kids_mk] at hx; simp at hx⟩
theorem val_fit {S : ByteArray} (hS : S.size ≤ 1000000) : ∀ (n r : Nat) {i : Nat} {d : Dt} {j : Nat}, valF S n i = .ok (d, j) → FitC r d
  | 0, _, _, _, _, h => by unfold valF at h; cases h
  | _ + 1, 0, _, _, _, _ => trivial
  | n + 1, r + 1, i, d, j, h => by
    have hI := item_gain (S := S) (v := valF S n) fun _ _ _ h => val_gain n h
    have hM := mem_gain (S := S) (v := valF S n) fun _ _ _ h => val_gain n h
    unfold valF at h
    split at h
    · cases hw : wordF S [110, 117, 108, 108] i with
      | error f => rw [hw] at h; cases h
      | ok k =>
        rw [hw] at h
        injection h with h; injection h with h1 h2
        rw [← h1]; exact fitC_leaf _ _ _ _
    split at h
    · cases hw : wordF S [116, 114, 117, 101] i with
      | error f => rw [hw] at h; cases h
      | ok k =>
        rw [hw] at h
        injection h with h; injection h with h1 h2
        rw [← h1]; exact fitC_leaf _ _ _ _
    split at h
    · cases hw : wordF S [102, 97, 108, 115, 101] i with
      | error f => rw [hw] at h; cases h
      | ok k =>
        rw [hw] at h
        injection h with h; injection h with h1 h2
        rw [← h1]; exact fitC_leaf _ _ _ _
    split at h
    · cases hw : strF S i with
      | error f => rw [hw] at h; cases h
      | ok k =>
        rw [hw] at h
        injection h with h; injection h with h1 h2
        rw [← h1]; exact fitC_leaf _ _ _ _
    split at h
    · cases hw : numE S i with
      | error f => rw [hw] at h; cases h
      | ok k =>
        rw [hw] at h
        injection h with h; injection h with h1 h2
        rw [← h1]; exact fitC_leaf _ _ _ _
    split at h
    · cases hs : sevF S 93 (itemS (valF S n)) [] i with
      | error f => rw [hs] at h; cases h
      | ok p =>
        obtain ⟨l, k⟩ := p
        rw [hs] at h
        injection h with h; injection h with h1 h2
        have hq := sev_inv (Q := fun (l : List Dt) i => l.length ≤ i ∧ ∀ x ∈ l, FitC r x) (fun x i y j hx hs => by
          have hg := hI _ _ _ _ hs
          unfold itemS at hs
          cases hv : valF S n i with
          | error f => rw [hv] at hs; cases hs
          | ok p =>
            obtain ⟨d, k⟩ := p
            rw [hv] at hs
            injection hs with hs; injection hs with h1 h2
            rw [← h1]
            refine ⟨by have := hx.1; rw [List.length_append, List.length_singleton]; omega, fun z hz => ?_⟩
            rcases List.mem_append.1 hz with hz | hz
            · exact hx.2 z hz
            · rw [List.mem_singleton.1 hz]; exact val_fit hS n r hv) (fun x i j hij hx => ⟨Nat.le_trans hx.1 hij, hx.2⟩) (by decide) hI ⟨Nat.zero_le _, by simp⟩ hs
        rw [← h1]
        refine ⟨⟨by rw [iD_mk]; have := hq.1.1; omega, by simp⟩, fun x hx => ?_⟩
        rw [kids_mk] at hx
        simp at hx
        exact hq.1.2 x hx
    split at h
    · cases hs : sevF S 125 (memS S (valF S n)) [] i with
      | error f => rw [hs] at h; cases h
      | ok p =>
        obtain ⟨l, k⟩ := p
        rw [hs] at h
        injection h with h; injection h with h1 h2
        have hq := sev_inv (Q := fun (l : List (ByteArray × Dt)) i => l.length ≤ i ∧ ∀ x ∈ l, FitC r x.2) (fun x i y j hx hs => by
          have hg := hM _ _ _ _ hs
          unfold memS at hs
          cases hs1 : strF S i with
          | error f => rw [hs1] at hs; cases hs
          | ok p =>
            obtain ⟨s, a⟩ := p
            rw [hs1] at hs
            simp only at hs
            split at hs
            · cases hs
            cases hw : wordF S [58] (blk S a) with
            | error f => rw [hw] at hs; cases hs
            | ok k =>
              rw [hw] at hs
              simp only at hs
              cases hv : valF S n (blk S k) with
              | error f => rw [hv] at hs; cases hs
              | ok p =>
                obtain ⟨d, q⟩ := p
                rw [hv] at hs
                injection hs with hs; injection hs with h1 h2
                rw [← h1]
                refine ⟨by have := hx.1; rw [List.length_append, List.length_singleton]; omega, fun z hz => ?_⟩
                rcases List.mem_append.1 hz with hz | hz
                · exact hx.2 z hz
                · rw [List.mem_singleton.1 hz]; exact val_fit hS n r hv) (fun x i j hij hx => ⟨Nat.le_trans hx.1 hij, hx.2⟩) (by decide) hM ⟨Nat.zero_le _, by simp⟩ hs
        rw [← h1]
        refine ⟨⟨by simp, by rw [mD_mk]; have := hq.1.1; omega⟩, fun x hx => ?_⟩
        rw [kids_mk] at hx
        simp at hx
        obtain ⟨a, hx⟩ := hx
        exact hq.1.2 _ hx
    · cases h
end Go.Proofs.YtmmbbndoimleaaaGreatDoor

/- several, by whatever element. -/
namespace Go.Proofs.YtmmbbndoimleaaaGreatDoor
open Go.RowKit

/-- What a call that goes on with a state does. -/
def KPost {α : Type} (I : α → World → Prop) (g : Nat) (S : ByteArray) (w : World) (r : Except Flt (α × Nat)) (e : Ending) (w' : World) : Prop :=
  match r with
  | .ok (y, j) => e = .returned (.tuple #[]) ∧ Pr w' g S j ∧ I y w'
  | .error f => FPost g w f e w'

set_option maxRecDepth 20000 in
set_option maxHeartbeats 4000000 in
theorem several_run {α : Type} (S : ByteArray) (g i c : Nat) (w0 w : World) (fn : FuncId) (p q : Value) (I : α → World → Prop) (step : α → Nat → Except Flt (α × Nat)) (x : α) (Q : α → Nat → Prop)
    (hQ : ∀ x i y j, Q x i → step x i = .ok (y, j) → Q y j) (hQm : ∀ x i j, i ≤ j → Q x i → Q x j) (hQ0 : Q x i)
    (hfn : ∀ W, (callFunc fn #[p, q]).run Tryz.prog W = .ok (.enter fn #[p, q]) W) (hg : Gain S step) (hc : c < 256) (hIX : ∀ y W, I y W → Px g w0 W) (hIP : ∀ y W W', I y W → Px g W W' → I y W')
    (hel : ∀ y k W, I y W → Q y k → Pr W g S k → i < k → k ≤ S.size → Calls Tryz.prog fn #[p, q] W (KPost I g S w0 (step y k)))
    (h : Pr w g S i) (hI : I x w) (hS : S.size ≤ 1000000000) (hi : i < S.size) :
    Calls Tryz.prog 41 #[.pointer (some ⟨g, 0, none⟩), .int .u8 c, .func (.func fn) #[] #[p, q]] w (KPost I g S w0 (sevF S c step x i)) := by
  have HN := hide fun k V (h : Pr V g S k) => next_run S g k V h
  have HBL := hide fun k V (h : Pr V g S k) (hk : k ≤ S.size) => blanks_run S g k V h hS hk
  have HW := hide fun k V (h : Pr V g S k) (hk : k ≤ S.size) => word_run S ⟨#[44]⟩ g k V h (by omega) (by decide)
  rw [show (⟨#[44]⟩ : ByteArray).data.toList = [44] from rfl] at HW
  have HIX := hide hIX; have HIP := hide hIP; have HEL := hide hel
  have HEQ := hide fun y k (hk : k ≤ S.size) => sevR_eq (e := c) hg y hk
  have HG := hide hg
  have HFN := hide hfn; have HQ := hide hQ; have HQM := hide hQm
  obtain ⟨r, hr⟩ : ∃ r, r = sevF S c step x i := ⟨_, rfl⟩
  rw [← hr]
  unfold sevF at hr
  obtain ⟨j, hj⟩ : ∃ j, j = blk S (i + 1) := ⟨_, rfl⟩
  rw [← hj] at hr
  have hjs : j ≤ S.size := by rw [hj]; exact run_le _ (by omega)
  have HJ := Lib.hid hj; have HR := Lib.hid hr
  obtain ⟨c0, c1, f1⟩ := h.cells
  have HP := hide h; have HI := hide hI
  have hij : i < j := by have := run_ge blkB S (i + 1); rw [hj]; show i < runF blkB S (i + 1); omega
  have HQ0 := hide (hQm _ _ _ (Nat.le_of_lt hij) hQ0)
  clear hQ hQm hQ0 hel hIP hIX hg hfn hr hj h hI
  go_enter Tryz.func41, Tryz.ntmps41
  go_upto_region 1 with fail
  obtain ⟨wa, hwa⟩ : ∃ W, W = w.setCell ⟨g, 1, none⟩ (.int .i64 ((i : Int) + 1)) := ⟨_, rfl⟩
  have HP1 := hide (show Pr wa g S (i + 1) by rw [hwa]; exact HP.out.set_ (i + 1))
  have HI1 := hide (show I x wa by rw [hwa]; exact HIP.out _ _ _ HI.out (Px.refl.set_ 1 _))
  rw [← hwa]
  clear hwa HP HI c0 c1 f1
  go_wp2_with fail
  refine (HBL.out _ _ HP1.out (by omega)).mono ?_; rintro e w1 ⟨rfl, hP2, hX2⟩
  rw [← HJ.out] at hP2
  have HP2 := hide hP2
  have HI2 := hide (HIP.out _ _ _ HI1.out hX2)
  clear hP2 hX2 HP1 HI1
  have HN1 := hide (HN.out j _ HP2.out)
  obtain ⟨y, hy⟩ : ∃ y, y = nx S j := ⟨_, rfl⟩
  rw [← hy] at HN1 HR
  clear hy
  by_cases hyc : y = c
  · subst hyc
    have HE := hide (show r = .ok (x, j + 1) by rw [HR.out, if_pos rfl])
    clear HR
    go_wp2_with fail
    refine HN1.out.mono ?_; rintro e w2 ⟨rfl, n1, rfl⟩
    obtain ⟨c0, c1, f1⟩ := HP2.out.cells
    go_wp2_with fail
    go_end0
    rw [HE.out]
    exact ⟨rfl, (HP2.out.drewN _).set_ (j + 1), HIP.out _ _ _ HI2.out ((Px.refl.drewN _).set_ 1 _)⟩
  · have HE := hide (show r = sevR S c step x j by rw [HR.out, if_neg hyc])
    have d1 : ((y : Int) == (c : Int)) = false := by simp; omega
    clear HR
    go_wp2_with fail
    refine HN1.out.mono ?_; rintro e w2 ⟨rfl, n1, rfl⟩
    have H0 := hide (show Pr (w1.drewN n1) g S j ∧ I x (w1.drewN n1) ∧ Q x j ∧ r = sevR S c step x j from ⟨HP2.out.drewN _, HIP.out _ _ _ HI2.out (Px.refl.drewN _), HQ0.out, HE.out⟩)
    clear HP2 HI2 HE HN1 hyc
    go_wp2_with fail
    go_loopw [26] (fun _ wr => ∃ (k : Nat) (l : α), k ≤ S.size ∧ i < k ∧ Hid (Pr wr g S k ∧ I l wr ∧ Q l k ∧ r = sevR S c step l k)) (fun _ wr => S.size + 1 - atOf wr g)
    case atStart => exact ⟨j, x, hjs, hij, H0⟩
    case round =>
      clear H0
      obtain ⟨k, l, hk, hik, hR⟩ := hrel
      have HAT := hide (show atOf wr g = k from hR.out.1.at_)
      have HRR := hide (hR.out.2.2.2.trans (HEQ.out l k hk))
      obtain ⟨m, hm⟩ : ∃ m, m = blk S k := ⟨_, rfl⟩
      have hms : m ≤ S.size := by rw [hm]; exact run_le _ hk
      have hkm : k ≤ m := by rw [hm]; exact run_ge _ _ _
      have HB1 := hide (HBL.out k _ hR.out.1 hk)
      rw [show blk S k = m from hm.symm] at HB1
      rw [← hm] at HRR
      have HII := hide hR.out.2.1
      have HQ1 := hide (HQM.out _ _ _ hkm hR.out.2.2.1)
      clear hR hm
      go_wp2_with fail
      refine HB1.out.mono ?_; rintro e w2 ⟨rfl, hP2, hX2⟩
      have HP2 := hide hP2
      have HI2 := hide (HIP.out _ _ _ HII.out hX2)
      clear hP2 hX2 HB1 HII
      have HE1 := hide (HEL.out l m _ HI2.out HQ1.out HP2.out (by omega) hms)
      obtain ⟨z, hz⟩ : ∃ z, z = step l m := ⟨_, rfl⟩
      rw [← hz] at HE1 HRR
      have HZ := Lib.hid hz
      clear hz
      go_wp2_with fail
      rw [HFN.out, Oper.upon_enter]
      refine HE1.out.mono ?_
      cases z with
      | error f =>
        rintro e w3 ⟨rfl, hx⟩
        have HE2 := hide (show r = .error f from HRR.out)
        have HX := hide hx
        clear hx HRR HE1
        go_wp2_with fail
        rw [HE2.out]
        exact ⟨rfl, rfl, HX.out⟩
      | ok p =>
        obtain ⟨l2, j2⟩ := p
        rintro e w3 ⟨rfl, hP3, hI3⟩
        obtain ⟨k1, k2⟩ := HG.out _ _ _ _ HZ.out.symm
        have HQ2 := hide (HQ.out _ _ _ _ HQ1.out HZ.out.symm)
        obtain ⟨m2, hm⟩ : ∃ m, m = blk S j2 := ⟨_, rfl⟩
        have hms2 : m2 ≤ S.size := by rw [hm]; exact run_le _ k2
        have hkm2 : j2 ≤ m2 := by rw [hm]; exact run_ge _ _ _
        have HB3 := hide (HBL.out j2 _ hP3 k2)
        rw [show blk S j2 = m2 from hm.symm] at HB3
        have HRR2 := hide (show r = if nx S m2 = c then .ok (l2, m2 + 1) else match wordF S [44] m2 with
          | .error f => .error f
          | .ok k => sevR S c step l2 k by rw [HRR.out, hm]; first | done | rfl)
        have HI3 := hide hI3
        clear hP3 hI3 HE1 HZ hm HRR HP2 HI2
        go_wp2_with fail
        refine HB3.out.mono ?_; rintro e w4 ⟨rfl, hP4, hX4⟩
        have HP4 := hide hP4
        have HI4 := hide (HIP.out _ _ _ HI3.out hX4)
        clear hP4 hX4 HI3 HB3
        have HN4 := hide (HN.out m2 _ HP4.out)
        obtain ⟨y2, hy⟩ : ∃ y, y = nx S m2 := ⟨_, rfl⟩
        rw [← hy] at HN4 HRR2
        clear hy
        by_cases hyc : y2 = c
        · subst hyc
          have HE := hide (show r = .ok (l2, m2 + 1) by rw [HRR2.out, if_pos rfl])
          clear HRR2
          go_wp2_with fail
          refine HN4.out.mono ?_; rintro e w5 ⟨rfl, n1, rfl⟩
          obtain ⟨c0, c1, f1⟩ := HP4.out.cells
          go_wp2_with fail
          go_end0
          rw [HE.out]
          exact ⟨rfl, (HP4.out.drewN _).set_ (m2 + 1), HIP.out _ _ _ HI4.out ((Px.refl.drewN _).set_ 1 _)⟩
        · have d1 : ((y2 : Int) == (c : Int)) = false := by simp; omega
          have HRR3 := hide (show r = match wordF S [44] m2 with
            | .error f => .error f
            | .ok k => sevR S c step l2 k by rw [HRR2.out, if_neg hyc])
          clear HRR2
          go_wp2_with fail
          refine HN4.out.mono ?_; rintro e w5 ⟨rfl, n1, rfl⟩
          have HW5 := hide (HW.out m2 _ (HP4.out.drewN n1) hms2)
          obtain ⟨v, hv⟩ : ∃ v, v = wordF S [44] m2 := ⟨_, rfl⟩
          rw [← hv] at HW5 HRR3
          have HV := Lib.hid hv
          clear hv
          go_wp2_with fail
          refine HW5.out.mono ?_
          cases v with
          | error f =>
            rintro e w6 ⟨rfl, hx⟩
            have HE2 := hide (show r = .error f from HRR3.out)
            have HX := hide (((HIX.out _ _ HI4.out).drewN n1).trans hx)
            clear hx HRR3 HW5
            go_wp2_with fail
            rw [HE2.out]
            exact ⟨rfl, rfl, HX.out⟩
          | ok k3 =>
            rintro e w6 ⟨rfl, hP6, hX6⟩
            obtain ⟨g5, g6⟩ := word1 (by decide) HV.out.symm
            have HP6 := hide hP6
            have HI6 := hide (HIP.out _ _ _ (HIP.out _ _ _ HI4.out (Px.refl.drewN n1)) hX6)
            clear hP6 hX6 HW5 HI4 HP4
            go_wp2_with fail
            go_roundw
            case rel => exact ⟨k3, l2, by omega, by omega, hide ⟨HP6.out, HI6.out, HQM.out _ _ _ (by omega) HQ2.out, HRR3.out⟩⟩
            case measure => rw [HP6.out.at_, HAT.out]; omega
end Go.Proofs.YtmmbbndoimleaaaGreatDoor

/- A region that draws its order: a head under a condition that the tail may break; the tail in whatever order. -/
namespace Go.Proofs.YtmmbbndoimleaaaGreatDoor
open Go.RowKit

section
variable {P : Program} {md : Region.Mode} {l : List Oper} {n : Nat} {Q : Exit → Act → World → Prop} {S : World → Prop} {T : Act → World → Prop}
def TailG (T : Act → World → Prop) (Q : Exit → Act → World → Prop) : Exit → Act → World → Prop
  | .normal, a, w => T a w
  | e, a, w => Q e a w
theorem tg_wp {o : Oper} {a : Act} {w : World} {K : Act → World → Prop} (h : o.wp P a w K (TailG T Q)) : o.wp P a w K Q := by
  unfold Oper.wp at *
  generalize (execOp a.eval o).run P w = r at *
  cases r with
  | ok x w' =>
    cases x <;> simp only [Oper.upon] at h ⊢ <;>
      first
        | exact h
        | exact Calls.mono h (fun e w'' he => by cases e <;> exact he)
  | halt x w' => cases x <;> simp only [Oper.upon] at h ⊢ <;> exact h
theorem tg_out (h : LetsOut (TailG T Q)) : LetsOut Q := h
/-- Each operation of the tail waits for each of the head. -/
def waitAllB (md : Region.Mode) (l : List Oper) (n : Nat) : Bool :=
  (List.range l.length).all fun j => decide (j < n) || (List.range n).all fun i => ((l.toArray[j]?).map fun o => o.after.any fun e => Region.binds md e && decide (e.on = i)).getD false
def headAB (md : Region.Mode) (l : List Oper) (n : Nat) : Bool := decide (n < l.length) && waitAllB md l n && orderB md l.toArray n && plainGuards (l.take n)
theorem any_of_headG (hB : headAB md l n = true)
    (hT : ∀ a w, T a w → wpAny P md l.toArray Q (l.length - n) (List.replicate n true ++ List.replicate (l.length - n) false).toArray a w) : ∀ (f : Nat) (listed : Array Bool) (a : Act) (w : World), listed.size = n →
    wpAnyH P md (l.take n).toArray (TailG T Q) S f listed a w → wpAny P md l.toArray Q (f + (l.length - n)) (full (l.length - n) listed) a w := by
  unfold headAB at hB
  simp only [Bool.and_eq_true, decide_eq_true_eq] at hB
  obtain ⟨⟨⟨hn, hwt⟩, hord⟩, hgu⟩ := hB
  have hord2 : orderB md (l.take n).toArray n = true := by
    unfold orderB at hord ⊢
    rw [List.all_eq_true] at hord ⊢
    intro i hi
    rw [getD_below (List.mem_range.1 hi)]
    exact hord i hi
  have hend : ∀ (f : Nat) (listed : Array Bool) (a : Act) (w : World), listed.size = n → Region.ready md (l.take n).toArray listed = [] → T a w → wpAny P md l.toArray Q (f + (l.length - n)) (full (l.length - n) listed) a w := by
    intro f listed a w hs hr h
    have hall := all_listed (listed := listed) hord2 hs (fun j _ => by rw [hr]; simp)
    have e : full (l.length - n) listed = (List.replicate n true ++ List.replicate (l.length - n) false).toArray := by
      have : listed.toList = List.replicate n true := by
        apply List.ext_getElem (by simp [hs])
        intro i h1 h2
        have h1' : i < listed.size := by simpa using h1
        have := hall i (by omega)
        simp [h1'] at this
        simpa using this
      unfold full; rw [this]
    rw [e]
    exact any_add _ f _ _ _ (hT a w h)
  intro f
  induction f with
  | zero =>
    intro listed a w hs h
    exact hend 0 listed a w hs h.1 h.2
  | succ f ih =>
    intro listed a w hs h
    cases hr : Region.ready md (l.take n).toArray listed with
    | nil => exact hend (f + 1) listed a w hs hr (h.1 hr)
    | cons i0 rs =>
      have hi0 : i0 ∈ Region.ready md (l.take n).toArray listed := by rw [hr]; exact List.mem_cons_self ..
      have hi0n : i0 < n := by have := ready_lt hi0; simp at this; omega
      have hun0 := (mem_ready.1 ((ready_full (g := l.length - n) hs hi0n).2 hi0)).1
      rw [show f + 1 + (l.length - n) = (f + (l.length - n)) + 1 by omega]
      refine ⟨fun h0 => ?_, fun j hj => ?_⟩
      · have := (ready_full (g := l.length - n) hs hi0n).2 hi0
        rw [h0] at this; cases this
      have hjn : j < n := by
        rcases Nat.lt_or_ge j n with h | h
        · exact h
        · exfalso
          obtain ⟨_, o, ho, ha⟩ := mem_ready.1 hj
          have hjl : j < l.length := by have := ready_lt hj; simpa using this
          have h1 := List.all_eq_true.1 hwt j (List.mem_range.2 hjl)
          simp only [Bool.or_eq_true, decide_eq_true_eq] at h1
          rcases h1 with h1 | h1
          · omega
          · have h2 := List.all_eq_true.1 h1 i0 (List.mem_range.2 hi0n)
            rw [ho] at h2
            have h2 : (o.after.any fun e => Region.binds md e && decide (e.on = i0)) = true := h2
            obtain ⟨e, he, h3⟩ := Array.any_eq_true'.1 h2
            simp only [Bool.and_eq_true, decide_eq_true_eq] at h3
            have h4 := ha e he h3.1
            rw [h3.2, getD_both hun0] at h4
            cases h4
      have h1 := h.2 j ((ready_full hs hjn).1 hj)
      obtain ⟨_, o, ho, _⟩ := mem_ready.1 hj
      have hgo : o.guard = none := by
        have := List.all_eq_true.1 hgu o (by simpa using Array.mem_of_getElem? ((getD_below hjn).trans ho))
        revert this
        cases o.guard <;> simp
      have hw : ∀ y, Region.wanted o y = true := fun y => by simp [Region.wanted, hgo]
      unfold wpOp at h1 ⊢
      rw [getD_below hjn] at h1
      simp only [ho, hw, if_true] at h1 ⊢
      rcases h1 with h1 | h1
      · refine .inl (Oper.wp_mono (fun a' w' h' => ?_) (tg_wp h1))
        have h2 := ih (listed.setIfInBounds j true) a' w' (by simp [hs]) h'.2
        rwa [full_set (by omega)] at h2
      · exact .inr ⟨h1.1, tg_out h1.2⟩
/-- A region in two parts: the head in whatever order, under S; the tail in whatever order. -/
theorem region_head {id : Nat} {a : Act} {w : World} (n : Nat) (S : World → Prop) (T : Act → World → Prop) (hm : P.follows .mixedOrders = true) (hB : headAB .any l n = true) (hS : S w.drew)
    (hT : ∀ a w, T a w → wpAny P .any l.toArray Q (l.length - n) (List.replicate n true ++ List.replicate (l.length - n) false).toArray a w)
    (h : S w.drew → wpAnyH P .any (l.take n).toArray (TailG T Q) S n (Array.replicate n false) a w.drew) : (Code.region id l.toArray true).wp P Q a w := by
  refine wp_region_any hm ?_
  have hn : n < l.length := by
    unfold headAB at hB
    simp only [Bool.and_eq_true, decide_eq_true_eq] at hB
    exact hB.1.1.1
  have e : full (l.length - n) (Array.replicate n false) = Array.replicate l.length false := by
    unfold full
    apply Array.ext'
    simp [List.replicate_append_replicate, show n + (l.length - n) = l.length by omega]
  have := any_of_headG (P := P) (Q := Q) (S := S) hB hT n (Array.replicate n false) a w.drew (by simp) (h hS)
  rw [e, show n + (l.length - n) = l.length by omega] at this
  simpa using this
end
end Go.Proofs.YtmmbbndoimleaaaGreatDoor
