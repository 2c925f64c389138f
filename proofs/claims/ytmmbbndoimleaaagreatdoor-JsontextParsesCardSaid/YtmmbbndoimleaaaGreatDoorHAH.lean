/- value; The deferred closure of Parse; Parse; Depth and sizes, plain. -/
import Derived.Test.YtmmbbndoimleaaaGreatDoorHAG
import Derived.Recover
import Derived.Laws.Pointers

/- value. -/
namespace Go.Proofs.YtmmbbndoimleaaaGreatDoor
open Go.RowKit

/-- The state of reading a struct. -/
def MeI (w : World) (g b1 b2 b3 b0 m : Nat) (l : List (ByteArray × Dt)) (wr : World) : Prop :=
  ∃ u, VSt w g b1 b2 b3 b0 [.int .i64 6, .int .i64 0, .string ⟨#[]⟩, .slice none 0 0, u] wr ∧ OwnM (PZ b0 u.ownBlock wr m) wr b0 u l
theorem MeI.px {w wr W : World} {g b1 b2 b3 b0 m : Nat} {l : List (ByteArray × Dt)} (h : MeI w g b1 b2 b3 b0 m l wr) (hX : Px g wr W) : MeI w g b1 b2 b3 b0 m l W := by
  obtain ⟨u, h1, h2⟩ := h
  exact ⟨u, h1.px hX, h2.px hX (by have := h1.1; omega)⟩
theorem OwnM.form {R : Reads} {w : World} {b : Nat} {u : Value} {l : List (ByteArray × Dt)} (h : OwnM R w b u l) : ∃ A q, u = .slice A l.length q := by
  obtain ⟨xs, ho, _⟩ := h
  rcases ho.2 with ⟨h1, h2⟩ | ⟨gg, cap, cur, h1, _⟩
  · exact ⟨_, _, by rw [h1, h2]⟩
  · exact ⟨_, _, h1⟩
theorem OwnD.form {R : Reads} {w : World} {b : Nat} {u : Value} {l : List Dt} (h : OwnD R w b u l) : ∃ A q, u = .slice A l.length q := by
  obtain ⟨xs, ho, _⟩ := h
  rcases ho.2 with ⟨h1, h2⟩ | ⟨gg, cap, cur, h1, _⟩
  · exact ⟨_, _, by rw [h1, h2]⟩
  · exact ⟨_, _, h1⟩
theorem OwnM.set {w : World} {b0 m : Nat} {ob : Option Nat} {u : Value} {l : List (ByteArray × Dt)} (h : OwnM (PZ b0 ob w m) w b0 u l) {p : Addr} (hp : p.block < b0) (v : Value) : OwnM (PZ b0 ob (w.setCell p v) m) (w.setCell p v) b0 u l := by
  obtain ⟨xs, ho, hf⟩ := h
  refine ⟨xs, own_set ho hp v, hf.turn fun x a c a' c' hx => ?_⟩
  exact PZ.turn hx (by rw [csize_set]; exact Nat.le_refl _) fun k k1 k2 k3 => ⟨Below.heap_setCell _ _ _ _ (by omega), k1, k3⟩

set_option maxRecDepth 20000 in
set_option maxHeartbeats 1000000 in
theorem memb_run (S : ByteArray) (w0 : World) (g b1 b2 b3 b0 m i n : Nat) (l : List (ByteArray × Dt)) (w : World) (hI : MeI w0 g b1 b2 b3 b0 m l w) (h : Pr w g S i) (hS : S.size ≤ 1000000000) (hi : i ≤ S.size) (hl : l.length ≤ 1000000000)
    (hv : ∀ k W, Pr W g S k → i < k → k ≤ S.size → Calls Tryz.prog 24 #[.pointer (some ⟨g, 0, none⟩)] W (VPost g S W m (valF S n k))) :
    Calls Tryz.prog 43 #[.pointer (some ⟨b1, 0, none⟩), .pointer (some ⟨b3, 0, none⟩)] w (KPost (MeI w0 g b1 b2 b3 b0 m) g S w0 (memS S (valF S n) l i)) := by
  obtain ⟨u, hST, hO⟩ := hI
  have HM := hide (member_run S g b0 m i n u l w h hS hi (by have := hST.1; omega) hST.2.1 hO hl hv)
  obtain ⟨A, q, rfl⟩ := hO.form
  obtain ⟨N, hN⟩ : ∃ n, n = l.length := ⟨_, rfl⟩
  rw [← hN] at HM hST
  clear hN
  obtain ⟨r, hr⟩ : ∃ r, r = memS S (valF S n) l i := ⟨_, rfl⟩
  rw [← hr] at HM ⊢
  obtain ⟨t0, t1, t2, t3, t4⟩ := row5 hST.2.2.2.2.2
  have p1 : w.cell? ⟨b1, 0, none⟩ = some (.pointer (some ⟨g, 0, none⟩)) := hST.2.2.2.1.cell 0
  have hb3 : b3 < b0 ∧ g ≠ b3 := (by have := hST.1; omega)
  have HS := hide hST
  clear hST hO hr hv
  go_enter Tryz.func43, Tryz.ntmps43
  go_wp2_with fail
  refine HM.out.mono ?_
  cases r with
  | error f =>
    rintro e w1 ⟨rfl, hx⟩
    have HX := hide (HS.out.2.2.1.trans hx)
    clear hx HM
    go_wp2_with fail
    exact ⟨rfl, rfl, HX.out⟩
  | ok p =>
    obtain ⟨l2, j⟩ := p
    rintro e w1 ⟨v, rfl, hP1, hK1, hO1⟩
    have HS1 := hide (HS.out.kp hK1)
    have HP1 := hide hP1
    obtain ⟨A', q', rfl⟩ := hO1.form
    have HO1 := hide hO1
    have q4 := HS1.out.2.2.2.2.2.frozen 4
    obtain ⟨t0', t1', t2', t3', t4'⟩ := row5 HS1.out.2.2.2.2.2
    clear hK1 hP1 hO1 HM HS t0 t1 t2 t3 t4 p1
    go_wp2_with fail
    go_end0
    have r1 : Pr (w1.setCell ⟨b3, 4, none⟩ (.slice A' l2.length q')) g S j := Row.far HP1.out hb3.2 _
    have r2 := HS1.out.set 4 (.slice A' l2.length q')
    have r3 := OwnM.set HO1.out (p := ⟨b3, 4, none⟩) hb3.1 (.slice A' l2.length q')
    show _ ∧ Pr _ g S j ∧ MeI w0 g b1 b2 b3 b0 m l2 _
    exact ⟨rfl, r1, _, r2, r3⟩
theorem OwnM.mz {lo base : Nat} {w : World} {m : Nat} {u : Value} {l : List (ByteArray × Dt)} (h : OwnM (PZ base u.ownBlock w m) w base u l) (hl : lo ≤ base) : MZ lo w m u l := by
  obtain ⟨A, c, rfl, h1, h2, _⟩ := h.mems
  refine ⟨A, c, rfl, h1, h2, fun W g1 g2 => ?_⟩
  obtain ⟨xs, ho, hf⟩ := h
  rcases Nat.eq_zero_or_pos l.length with h0 | h0
  · rw [List.eq_nil_of_length_eq_zero h0]; intro i x hx; simp at hx
  · obtain ⟨g, rfl, hg, hg2⟩ := own_lo ho h0
    refine MemsAt.of_flat (hf.turn fun x a c a' c' hp => hp W g1 fun k k1 k2 _ => g2 k (by omega) k2) (by show g < _; omega) fun j v hv => ?_
    have hc := ho.cells (g := g) rfl j v hv
    rw [add_head] at hc ⊢
    exact (World.cell?_of_block (g2 g (by omega) hg2)).trans hc
/-- The end of value. -/
theorem val_fin {w wr : World} {S : ByteArray} {g b1 b2 b3 b0 m j : Nat} {D3 : List Value} {k n : Int} {s : ByteArray} {u v : Value} {l : List Dt} {ms : List (ByteArray × Dt)}
    (h : VSt w g b1 b2 b3 b0 D3 wr) (hP : Pr wr g S j) (hd : DZ b0 wr m u l) (hm : MZ b0 wr m v ms) (x0 x1 x2 x3 x4 : Value) :
    (∃ a c a' c', Ending.returned (.agg #[.int .i64 k, .int .i64 n, .string s, u, v]) = .returned (datV (mkD k n s l ms) a c a' c') ∧ PZ w.heap.size none (set5 wr b2 x0 x1 x2 x3 x4) (m + 1) (mkD k n s l ms) a c a' c') ∧ Pr (set5 wr b2 x0 x1 x2 x3 x4) g S j ∧ Px g w (set5 wr b2 x0 x1 x2 x3 x4) := by
  obtain ⟨h0, h1, h2, h3, h4, h5⟩ := h
  have hk : ∀ k, k ≠ b2 → (set5 wr b2 x0 x1 x2 x3 x4).heap[k]? = wr.heap[k]? := fun k hk => set5_heap _ _ _ _ _ _ _ hk
  have hs := set5_size wr b2 x0 x1 x2 x3 x4
  obtain ⟨a, c, a', c', rfl, rfl, hp⟩ := pz_mk (k := k) (n := n) (s := s) (hd.turn (lo' := w.heap.size) (w' := set5 wr b2 x0 x1 x2 x3 x4) (by omega) (by omega) fun k k1 _ => hk k (by omega)) (hm.turn (lo' := w.heap.size) (w' := set5 wr b2 x0 x1 x2 x3 x4) (by omega) (by omega) fun k k1 _ => hk k (by omega))
  refine ⟨⟨a, c, a', c', by unfold datV datCs; simp, hp⟩, (hk g (by omega)).trans hP, ?_⟩
  unfold set5
  exact ((((h2.setFar (p := ⟨b2, _, none⟩) (by show _ ≤ b2; omega) _).setFar (p := ⟨b2, _, none⟩) (by show _ ≤ b2; omega) _).setFar (p := ⟨b2, _, none⟩) (by show _ ≤ b2; omega) _).setFar (p := ⟨b2, _, none⟩) (by show _ ≤ b2; omega) _).setFar (p := ⟨b2, _, none⟩) (by show _ ≤ b2; omega) _
theorem item_len {v : Nat → Except Flt (Dt × Nat)} {x y : List Dt} {i j : Nat} (h : itemS v x i = .ok (y, j)) : y.length = x.length + 1 := by
  unfold itemS at h
  cases hv : v i with
  | error f => rw [hv] at h; cases h
  | ok p =>
    obtain ⟨d, k⟩ := p
    rw [hv] at h
    injection h with h; injection h with h1 h2
    rw [← h1]; simp
theorem mem_len {S : ByteArray} {v : Nat → Except Flt (Dt × Nat)} {x y : List (ByteArray × Dt)} {i j : Nat} (h : memS S v x i = .ok (y, j)) : y.length = x.length + 1 := by
  unfold memS at h
  cases hs1 : strF S i with
  | error f => rw [hs1] at h; cases h
  | ok p =>
    obtain ⟨s, a⟩ := p
    rw [hs1] at h
    simp only at h
    split at h
    · cases h
    cases hw : wordF S [58] (blk S a) with
    | error f => rw [hw] at h; cases h
    | ok k =>
      rw [hw] at h
      simp only at h
      cases hv : v (blk S k) with
      | error f => rw [hv] at h; cases h
      | ok p =>
        obtain ⟨d, q⟩ := p
        rw [hv] at h
        injection h with h; injection h with h1 h2
        rw [← h1]; simp

set_option maxRecDepth 20000 in
set_option maxHeartbeats 4000000 in
theorem value_run (S : ByteArray) (g : Nat) (hS : S.size ≤ 1000000000) : ∀ (n i : Nat) (w : World), Pr w g S i → i ≤ S.size → S.size - i < n →
    Calls Tryz.prog 24 #[.pointer (some ⟨g, 0, none⟩)] w (VPost g S w n (valF S n i)) := by
  intro n
  induction n with
  | zero => intro i w _ _ h; omega
  | succ n ih =>
    intro i w h hi hn
    have HV := hide fun k W (h : Pr W g S k) (h1 : i < k) (h2 : k ≤ S.size) => ih k W h h2 (by omega)
    have HN := hide fun V (h : Pr V g S i) => next_run S g i V h
    have HDG := hide fun V (h : Pr V g S i) => digit_run S g i V h
    have HNUM := hide fun V (h : Pr V g S i) => number_run S g i V h hS hi
    have HSTR := hide fun V (h : Pr V g S i) => str_run S g i V h hS hi
    have HF := hide fun V => fail_run (.pointer (some ⟨g, 0, none⟩)) 19 (i : Nat) V
    have HW := hide fun (W : ByteArray) V (h : Pr V g S i) (hW : W.size ≤ 1000) => word_run S W g i V h (by omega) hW
    obtain ⟨r, hr⟩ : ∃ r, r = valF S (n + 1) i := ⟨_, rfl⟩
    rw [← hr]
    unfold valF at hr
    obtain ⟨c, hc⟩ : ∃ c, c = nx S i := ⟨_, rfl⟩
    have hc2 := nx_lt S i
    have HIN := hide (show c ≠ 0 → i < S.size by rw [hc]; exact nx_in)
    rw [← hc] at hr hc2 HN HDG
    have HR := Lib.hid hr
    have hgw := h.lt
    have H1 := hide h
    clear hr hc ih h
    go_enter Tryz.func24, Tryz.ntmps24
    go_upto_region 2 with fail
    obtain ⟨b1, hb1⟩ : ∃ b, b = w.heap.size := ⟨_, rfl⟩
    obtain ⟨b2, hb2⟩ : ∃ b, b = w.heap.size + 1 := ⟨_, rfl⟩
    obtain ⟨b3, hb3⟩ : ∃ b, b = w.heap.size + 1 + 1 := ⟨_, rfl⟩
    obtain ⟨wa, hwa⟩ : ∃ W, W = ((w.alloc (.cells #[.pointer (some ⟨g, 0, none⟩)] 44)).alloc (.cells #[.int .i64 0, .int .i64 0, .string ⟨#[]⟩, .slice none 0 0, .slice none 0 0] 25)).alloc (.cells #[.int .i64 5, .int .i64 0, .string ⟨#[]⟩, .slice none 0 0, .slice none 0 0] 25) := ⟨_, rfl⟩
    have HA := hide (show VSt w g b1 b2 b3 (b1 + 3) [.int .i64 5, .int .i64 0, .string ⟨#[]⟩, .slice none 0 0, .slice none 0 0] wa ∧ Pr wa g S i by
      subst hwa
      refine ⟨⟨⟨hb1.symm, by omega, by omega, rfl, by omega⟩, by simp; omega, ((Px.refl.alloc _).alloc _).alloc _, ?_, ?_, ?_⟩, ((H1.out.alloc _).alloc _).alloc _⟩
      · rw [hb1]; exact ((Row.new w _ _).alloc _).alloc _
      · rw [hb2]; have := (Row.new (w.alloc (.cells #[.pointer (some ⟨g, 0, none⟩)] 44)) 25 [.int .i64 0, .int .i64 0, .string ⟨#[]⟩, .slice none 0 0, .slice none 0 0]).alloc (.cells #[.int .i64 5, .int .i64 0, .string ⟨#[]⟩, .slice none 0 0, .slice none 0 0] 25); simpa using this
      · rw [hb3]; have := Row.new ((w.alloc (.cells #[.pointer (some ⟨g, 0, none⟩)] 44)).alloc (.cells #[.int .i64 0, .int .i64 0, .string ⟨#[]⟩, .slice none 0 0, .slice none 0 0] 25)) 25 [.int .i64 5, .int .i64 0, .string ⟨#[]⟩, .slice none 0 0, .slice none 0 0]; simpa using this)
    have hbb : g < b1 ∧ g ≠ b2 ∧ g ≠ b3 ∧ b1 ≠ b2 ∧ b1 ≠ b3 ∧ b2 ≠ b3 := by omega
    rw [← hwa, ← hb3, ← hb2, ← hb1]
    clear hwa hb1 hb2 hb3 H1
    have p1 : wa.cell? ⟨b1, 0, none⟩ = some (.pointer (some ⟨g, 0, none⟩)) := HA.out.1.2.2.2.1.cell 0
    go_wp2_with fail
    refine (HN.out _ HA.out.2).mono ?_; rintro e w1 ⟨rfl, n1, rfl⟩
    go_upto_region 4 with fail
    obtain ⟨wb, hwb⟩ : ∃ W, W = wa.drewN n1 := ⟨_, rfl⟩
    have HB := hide (show VSt w g b1 b2 b3 (b1 + 3) [.int .i64 5, .int .i64 0, .string ⟨#[]⟩, .slice none 0 0, .slice none 0 0] wb ∧ Pr wb g S i by rw [hwb]; exact ⟨HA.out.1.px (Px.refl.drewN _), HA.out.2.drewN _⟩)
    rw [← hwb]
    clear hwb HA p1 HN
    have p1 : wb.cell? ⟨b1, 0, none⟩ = some (.pointer (some ⟨g, 0, none⟩)) := HB.out.1.2.2.2.1.cell 0
    by_cases h110 : c = 110
    · subst h110
      have HR1 := hide (show r = match wordF S [110, 117, 108, 108] i with
        | .error f => .error f
        | .ok j => .ok (leafD 1 0 ⟨#[]⟩, j) by rw [HR.out, if_pos rfl]; first | done | rfl)
      have HW1 := hide (HW.out ⟨#[110, 117, 108, 108]⟩ wb HB.out.2 (by decide))
      rw [show (⟨#[110, 117, 108, 108]⟩ : ByteArray).data.toList = [110, 117, 108, 108] from rfl] at HW1
      obtain ⟨q, hq⟩ : ∃ q, q = wordF S [110, 117, 108, 108] i := ⟨_, rfl⟩
      rw [← hq] at HR1 HW1
      clear hq HR
      go_wp2_with fail
      refine HW1.out.mono ?_
      cases q with
      | error f =>
        rintro e w2 ⟨rfl, hx⟩
        have HE2 := hide (show r = .error f from HR1.out)
        have HX := hide (HB.out.1.2.2.1.trans hx)
        clear hx HR1 HW1
        go_wp2_with fail
        rw [HE2.out]
        exact ⟨rfl, rfl, HX.out⟩
      | ok j =>
        rintro e w2 ⟨rfl, hP, hx⟩
        have HE2 := hide (show r = .ok (leafD 1 0 ⟨#[]⟩, j) from HR1.out)
        have HS2 := hide (HB.out.1.px hx)
        have HP2 := hide hP
        clear hx hP HR1 HW1
        have f0 := HS2.out.2.2.2.2.1.frozen 0
        have f1 := HS2.out.2.2.2.2.1.frozen 1
        have f2 := HS2.out.2.2.2.2.1.frozen 2
        have f3 := HS2.out.2.2.2.2.1.frozen 3
        have f4 := HS2.out.2.2.2.2.1.frozen 4
        obtain ⟨r0, r1, r2, r3, r4⟩ := row5 HS2.out.2.2.2.2.1
        go_wp2_with fail
        refine bodyPost_ret (results_dat rfl _ _ b2 _ _ _ _ _ rfl (row_set5 HS2.out.2.2.2.2.1 _ _ _ _ _)) rfl ?_
        rw [HE2.out]
        exact val_fin HS2.out HP2.out (DZ.nil _ _ _) (MZ.nil _ _ _) _ _ _ _ _
    have d110 : ((c : Int) == 110) = false := by simp; omega
    by_cases h116 : c = 116
    · subst h116
      have HR1 := hide (show r = match wordF S [116, 114, 117, 101] i with
        | .error f => .error f
        | .ok j => .ok (leafD 2 1 ⟨#[]⟩, j) by rw [HR.out, if_neg (by decide), if_pos rfl]; first | done | rfl)
      have HW1 := hide (HW.out ⟨#[116, 114, 117, 101]⟩ wb HB.out.2 (by decide))
      rw [show (⟨#[116, 114, 117, 101]⟩ : ByteArray).data.toList = [116, 114, 117, 101] from rfl] at HW1
      obtain ⟨q, hq⟩ : ∃ q, q = wordF S [116, 114, 117, 101] i := ⟨_, rfl⟩
      rw [← hq] at HR1 HW1
      clear hq HR
      go_wp2_with fail
      refine HW1.out.mono ?_
      cases q with
      | error f =>
        rintro e w2 ⟨rfl, hx⟩
        have HE2 := hide (show r = .error f from HR1.out)
        have HX := hide (HB.out.1.2.2.1.trans hx)
        clear hx HR1 HW1
        go_wp2_with fail
        rw [HE2.out]
        exact ⟨rfl, rfl, HX.out⟩
      | ok j =>
        rintro e w2 ⟨rfl, hP, hx⟩
        have HE2 := hide (show r = .ok (leafD 2 1 ⟨#[]⟩, j) from HR1.out)
        have HS2 := hide (HB.out.1.px hx)
        have HP2 := hide hP
        clear hx hP HR1 HW1
        have f0 := HS2.out.2.2.2.2.1.frozen 0
        have f1 := HS2.out.2.2.2.2.1.frozen 1
        have f2 := HS2.out.2.2.2.2.1.frozen 2
        have f3 := HS2.out.2.2.2.2.1.frozen 3
        have f4 := HS2.out.2.2.2.2.1.frozen 4
        obtain ⟨r0, r1, r2, r3, r4⟩ := row5 HS2.out.2.2.2.2.1
        go_wp2_with fail
        refine bodyPost_ret (results_dat rfl _ _ b2 _ _ _ _ _ rfl (row_set5 HS2.out.2.2.2.2.1 _ _ _ _ _)) rfl ?_
        rw [HE2.out]
        exact val_fin HS2.out HP2.out (DZ.nil _ _ _) (MZ.nil _ _ _) _ _ _ _ _
    have d116 : ((c : Int) == 116) = false := by simp; omega
    by_cases h102 : c = 102
    · subst h102
      have HR1 := hide (show r = match wordF S [102, 97, 108, 115, 101] i with
        | .error f => .error f
        | .ok j => .ok (leafD 2 0 ⟨#[]⟩, j) by rw [HR.out, if_neg (by decide), if_neg (by decide), if_pos rfl]; first | done | rfl)
      have HW1 := hide (HW.out ⟨#[102, 97, 108, 115, 101]⟩ wb HB.out.2 (by decide))
      rw [show (⟨#[102, 97, 108, 115, 101]⟩ : ByteArray).data.toList = [102, 97, 108, 115, 101] from rfl] at HW1
      obtain ⟨q, hq⟩ : ∃ q, q = wordF S [102, 97, 108, 115, 101] i := ⟨_, rfl⟩
      rw [← hq] at HR1 HW1
      clear hq HR
      go_wp2_with fail
      refine HW1.out.mono ?_
      cases q with
      | error f =>
        rintro e w2 ⟨rfl, hx⟩
        have HE2 := hide (show r = .error f from HR1.out)
        have HX := hide (HB.out.1.2.2.1.trans hx)
        clear hx HR1 HW1
        go_wp2_with fail
        rw [HE2.out]
        exact ⟨rfl, rfl, HX.out⟩
      | ok j =>
        rintro e w2 ⟨rfl, hP, hx⟩
        have HE2 := hide (show r = .ok (leafD 2 0 ⟨#[]⟩, j) from HR1.out)
        have HS2 := hide (HB.out.1.px hx)
        have HP2 := hide hP
        clear hx hP HR1 HW1
        have f0 := HS2.out.2.2.2.2.1.frozen 0
        have f1 := HS2.out.2.2.2.2.1.frozen 1
        have f2 := HS2.out.2.2.2.2.1.frozen 2
        have f3 := HS2.out.2.2.2.2.1.frozen 3
        have f4 := HS2.out.2.2.2.2.1.frozen 4
        obtain ⟨r0, r1, r2, r3, r4⟩ := row5 HS2.out.2.2.2.2.1
        go_wp2_with fail
        refine bodyPost_ret (results_dat rfl _ _ b2 _ _ _ _ _ rfl (row_set5 HS2.out.2.2.2.2.1 _ _ _ _ _)) rfl ?_
        rw [HE2.out]
        exact val_fin HS2.out HP2.out (DZ.nil _ _ _) (MZ.nil _ _ _) _ _ _ _ _
    have d102 : ((c : Int) == 102) = false := by simp; omega
    by_cases h34 : c = 34
    · subst h34
      have HR1 := hide (show r = match strF S i with
        | .error f => .error f
        | .ok (s, j) => .ok (leafD 4 0 s, j) by rw [HR.out, if_neg (by decide), if_neg (by decide), if_neg (by decide), if_pos rfl]; first | done | rfl)
      have HW1 := hide (HSTR.out wb HB.out.2)
      obtain ⟨q, hq⟩ : ∃ q, q = strF S i := ⟨_, rfl⟩
      rw [← hq] at HR1 HW1
      clear hq HR
      go_wp2_with fail
      refine HW1.out.mono ?_
      cases q with
      | error f =>
        rintro e w2 ⟨rfl, hx⟩
        have HE2 := hide (show r = .error f from HR1.out)
        have HX := hide (HB.out.1.2.2.1.trans hx)
        clear hx HR1 HW1
        go_wp2_with fail
        rw [HE2.out]
        exact ⟨rfl, rfl, HX.out⟩
      | ok p =>
        obtain ⟨s, j⟩ := p
        rintro e w2 ⟨rfl, hP, hx⟩
        have HE2 := hide (show r = .ok (leafD 4 0 s, j) from HR1.out)
        have HS2 := hide (HB.out.1.px hx)
        have HP2 := hide hP
        clear hx hP HR1 HW1
        have f0 := HS2.out.2.2.2.2.1.frozen 0
        have f1 := HS2.out.2.2.2.2.1.frozen 1
        have f2 := HS2.out.2.2.2.2.1.frozen 2
        have f3 := HS2.out.2.2.2.2.1.frozen 3
        have f4 := HS2.out.2.2.2.2.1.frozen 4
        obtain ⟨r0, r1, r2, r3, r4⟩ := row5 HS2.out.2.2.2.2.1
        go_wp2_with fail
        refine bodyPost_ret (results_dat rfl _ _ b2 _ _ _ _ _ rfl (row_set5 HS2.out.2.2.2.2.1 _ _ _ _ _)) rfl ?_
        rw [HE2.out]
        exact val_fin HS2.out HP2.out (DZ.nil _ _ _) (MZ.nil _ _ _) _ _ _ _ _
    have d34 : ((c : Int) == 34) = false := by simp; omega
    by_cases h45 : c = 45
    · have HS1 := hide HB.out.1
      have HP1 := hide HB.out.2
      have d45 : ((c : Int) == 45) = true := by simp; omega
      go_wp2_with fail
      have HR1 := hide (show r = match numE S i with
        | .error f => .error f
        | .ok (u, j) => .ok (leafD 3 u ⟨#[]⟩, j) by rw [HR.out, if_neg h110, if_neg h116, if_neg h102, if_neg h34, if_pos (.inl h45)]; first | done | rfl)
      have HW1 := hide (HNUM.out _ HP1.out)
      obtain ⟨q, hq⟩ : ∃ q, q = numE S i := ⟨_, rfl⟩
      rw [← hq] at HR1 HW1
      clear hq HR
      refine HW1.out.mono ?_
      cases q with
      | error f =>
        rintro e w2 ⟨rfl, hx⟩
        have HE2 := hide (show r = .error f from HR1.out)
        have HX := hide (HS1.out.2.2.1.trans hx)
        clear hx HR1 HW1
        go_wp2_with fail
        rw [HE2.out]
        exact ⟨rfl, rfl, HX.out⟩
      | ok p =>
        obtain ⟨u, j⟩ := p
        rintro e w2 ⟨rfl, hP, hx⟩
        rw [show datV (mkD 3 u ⟨#[]⟩ [] []) none 0 none 0 = .agg #[.int .i64 3, .int .i64 u, .string ⟨#[]⟩, .slice none 0 0, .slice none 0 0] from rfl]
        have HE2 := hide (show r = .ok (leafD 3 u ⟨#[]⟩, j) from HR1.out)
        have HS2 := hide (HS1.out.px hx)
        have HP2 := hide hP
        clear hx hP HR1 HW1
        have f0 := HS2.out.2.2.2.2.1.frozen 0
        have f1 := HS2.out.2.2.2.2.1.frozen 1
        have f2 := HS2.out.2.2.2.2.1.frozen 2
        have f3 := HS2.out.2.2.2.2.1.frozen 3
        have f4 := HS2.out.2.2.2.2.1.frozen 4
        obtain ⟨r0, r1, r2, r3, r4⟩ := row5 HS2.out.2.2.2.2.1
        go_wp2_with fail
        refine bodyPost_ret (results_dat rfl _ _ b2 _ _ _ _ _ rfl (row_set5 HS2.out.2.2.2.2.1 _ _ _ _ _)) rfl ?_
        rw [HE2.out]
        exact val_fin HS2.out HP2.out (DZ.nil _ _ _) (MZ.nil _ _ _) _ _ _ _ _
    have d45 : ((c : Int) == 45) = false := by simp; omega
    obtain ⟨b, hb⟩ : ∃ b, b = digB c := ⟨_, rfl⟩
    have HDG1 := hide (HDG.out _ HB.out.2)
    rw [← hb] at HDG1
    cases b with
    | true =>
      have HDB := hide hb
      clear hb
      go_wp2_with fail
      refine HDG1.out.mono ?_; rintro e w2 ⟨rfl, n2, rfl⟩
      have HS1 := hide (HB.out.1.px (Px.refl.drewN n2))
      have HP1 := hide (HB.out.2.drewN n2)
      go_wp2_with fail
      have HR1 := hide (show r = match numE S i with
        | .error f => .error f
        | .ok (u, j) => .ok (leafD 3 u ⟨#[]⟩, j) by rw [HR.out, if_neg h110, if_neg h116, if_neg h102, if_neg h34, if_pos (.inr HDB.out.symm)]; first | done | rfl)
      have HW1 := hide (HNUM.out _ HP1.out)
      obtain ⟨q, hq⟩ : ∃ q, q = numE S i := ⟨_, rfl⟩
      rw [← hq] at HR1 HW1
      clear hq HR
      refine HW1.out.mono ?_
      cases q with
      | error f =>
        rintro e w2 ⟨rfl, hx⟩
        have HE2 := hide (show r = .error f from HR1.out)
        have HX := hide (HS1.out.2.2.1.trans hx)
        clear hx HR1 HW1
        go_wp2_with fail
        rw [HE2.out]
        exact ⟨rfl, rfl, HX.out⟩
      | ok p =>
        obtain ⟨u, j⟩ := p
        rintro e w2 ⟨rfl, hP, hx⟩
        rw [show datV (mkD 3 u ⟨#[]⟩ [] []) none 0 none 0 = .agg #[.int .i64 3, .int .i64 u, .string ⟨#[]⟩, .slice none 0 0, .slice none 0 0] from rfl]
        have HE2 := hide (show r = .ok (leafD 3 u ⟨#[]⟩, j) from HR1.out)
        have HS2 := hide (HS1.out.px hx)
        have HP2 := hide hP
        clear hx hP HR1 HW1
        have f0 := HS2.out.2.2.2.2.1.frozen 0
        have f1 := HS2.out.2.2.2.2.1.frozen 1
        have f2 := HS2.out.2.2.2.2.1.frozen 2
        have f3 := HS2.out.2.2.2.2.1.frozen 3
        have f4 := HS2.out.2.2.2.2.1.frozen 4
        obtain ⟨r0, r1, r2, r3, r4⟩ := row5 HS2.out.2.2.2.2.1
        go_wp2_with fail
        refine bodyPost_ret (results_dat rfl _ _ b2 _ _ _ _ _ rfl (row_set5 HS2.out.2.2.2.2.1 _ _ _ _ _)) rfl ?_
        rw [HE2.out]
        exact val_fin HS2.out HP2.out (DZ.nil _ _ _) (MZ.nil _ _ _) _ _ _ _ _
    | false =>
      have hnd : ¬(c = 45 ∨ digB c = true) := by rw [← hb]; simp [h45]
      clear hb
      go_wp2_with fail
      refine HDG1.out.mono ?_; rintro e w2 ⟨rfl, n2, rfl⟩
      go_upto_region 17 with fail
      obtain ⟨wc, hwc⟩ : ∃ W, W = wb.drewN n2 := ⟨_, rfl⟩
      have HC := hide (show VSt w g b1 b2 b3 (b1 + 3) [.int .i64 5, .int .i64 0, .string ⟨#[]⟩, .slice none 0 0, .slice none 0 0] wc ∧ Pr wc g S i by rw [hwc]; exact ⟨HB.out.1.px (Px.refl.drewN _), HB.out.2.drewN _⟩)
      have HR2 := hide (show r = if c = 91 then match sevF S 93 (itemS (valF S n)) [] i with
          | .error f => .error f
          | .ok (l, j) => .ok (mkD 5 0 ⟨#[]⟩ l [], j)
        else if c = 123 then match sevF S 125 (memS S (valF S n)) [] i with
          | .error f => .error f
          | .ok (l, j) => .ok (mkD 6 0 ⟨#[]⟩ [] l, j)
        else .error (19, (i : Int)) by rw [HR.out, if_neg h110, if_neg h116, if_neg h102, if_neg h34, if_neg hnd]; first | done | rfl)
      rw [← hwc]
      clear hwc HB p1 HR HDG1 hnd HDG HNUM HSTR HW
      have p1 : wc.cell? ⟨b1, 0, none⟩ = some (.pointer (some ⟨g, 0, none⟩)) := HC.out.1.2.2.2.1.cell 0
      by_cases h91 : c = 91
      · subst h91
        have HR3 := hide (show r = match sevF S 93 (itemS (valF S n)) [] i with
          | .error f => .error f
          | .ok (l, j) => .ok (mkD 5 0 ⟨#[]⟩ l [], j) by rw [HR2.out, if_pos rfl])
        have hsi : i < S.size := HIN.out (by decide)
        have HSV := hide (several_run S g i 93 w wc 42 (.pointer (some ⟨b3, 0, none⟩)) (.pointer (some ⟨b1, 0, none⟩)) (ItI w g b1 b2 b3 (b1 + 3) n) (itemS (valF S n)) [] (fun l k => l.length ≤ k)
          (fun x i y j hx hs => by have := item_len hs; have := (item_gain (S := S) (fun _ _ _ h => val_gain n h) _ _ _ _ hs).1; omega) (fun x i j hij hx => Nat.le_trans hx hij) (Nat.zero_le _)
          (fun W => by rfl) (item_gain fun _ _ _ h => val_gain n h) (by omega) (fun y W h => by obtain ⟨u, h1, _⟩ := h; exact h1.2.2.1) (fun y W W' h hX => h.px hX)
          (fun y k W hI hQ hP hk hks => by
            rw [itemS_eq]
            exact item_run S w g b1 b2 b3 (b1 + 3) n y W (valF S n k) hI (by omega) fun W' hB => HV.out k W' (hP.below hB) hk hks)
          HC.out.2 ⟨_, HC.out.1, [], World.ownsRow_nil _ _ _ _, rfl⟩ hS hsi)
        obtain ⟨q, hq⟩ : ∃ q, q = sevF S 93 (itemS (valF S n)) [] i := ⟨_, rfl⟩
        rw [← hq] at HR3 HSV
        clear hq HR2
        go_wp2_with fail
        refine HSV.out.mono ?_
        cases q with
        | error f =>
          rintro e w2 ⟨rfl, hx⟩
          have HE2 := hide (show r = .error f from HR3.out)
          have HX := hide hx
          clear hx HR3 HSV
          go_wp2_with fail
          rw [HE2.out]
          exact ⟨rfl, rfl, HX.out⟩
        | ok p =>
          obtain ⟨l, j⟩ := p
          rintro e w2 ⟨rfl, hP, u, hST, hO⟩
          have HE2 := hide (show r = .ok (mkD 5 0 ⟨#[]⟩ l [], j) from HR3.out)
          have HS2 := hide hST
          have HP2 := hide hP
          obtain ⟨A, q, rfl⟩ := hO.form
          have HD2 := hide (hO.dz (Nat.le_refl _))
          clear hP hST hO HR3 HSV
          have f0 := HS2.out.2.2.2.2.1.frozen 0
          have f1 := HS2.out.2.2.2.2.1.frozen 1
          have f2 := HS2.out.2.2.2.2.1.frozen 2
          have f3 := HS2.out.2.2.2.2.1.frozen 3
          have f4 := HS2.out.2.2.2.2.1.frozen 4
          obtain ⟨r0, r1, r2, r3, r4⟩ := row5 HS2.out.2.2.2.2.1
          obtain ⟨s0, s1, s2, s3, s4⟩ := row5 HS2.out.2.2.2.2.2
          go_wp2_with fail
          refine bodyPost_ret (results_dat rfl _ _ b2 _ _ _ _ _ rfl (row_set5 HS2.out.2.2.2.2.1 _ _ _ _ _)) rfl ?_
          rw [HE2.out]
          exact val_fin HS2.out HP2.out HD2.out (MZ.nil _ _ _) _ _ _ _ _
      have d91 : ((c : Int) == 91) = false := by simp; omega
      by_cases h123 : c = 123
      · subst h123
        have HR3 := hide (show r = match sevF S 125 (memS S (valF S n)) [] i with
          | .error f => .error f
          | .ok (l, j) => .ok (mkD 6 0 ⟨#[]⟩ [] l, j) by rw [HR2.out, if_neg (by decide), if_pos rfl])
        have hsi : i < S.size := HIN.out (by decide)
        have r0 : wc.cell? ⟨b3, 0, none⟩ = some (.int .i64 5) := HC.out.1.2.2.2.2.2.cell 0
        have q0 := HC.out.1.2.2.2.2.2.frozen 0
        go_upto_region 21 with fail
        obtain ⟨wd, hwd⟩ : ∃ W, W = wc.setCell ⟨b3, 0, none⟩ (.int .i64 6) := ⟨_, rfl⟩
        have HD := hide (show VSt w g b1 b2 b3 (b1 + 3) [.int .i64 6, .int .i64 0, .string ⟨#[]⟩, .slice none 0 0, .slice none 0 0] wd ∧ Pr wd g S i by rw [hwd]; exact ⟨HC.out.1.set 0 (.int .i64 6), Row.far HC.out.2 (p := ⟨b3, 0, none⟩) hbb.2.2.1 _⟩)
        rw [← hwd]
        clear hwd HC p1 r0 q0
        have p1 : wd.cell? ⟨b1, 0, none⟩ = some (.pointer (some ⟨g, 0, none⟩)) := HD.out.1.2.2.2.1.cell 0
        have HSV := hide (several_run S g i 125 w wd 43 (.pointer (some ⟨b1, 0, none⟩)) (.pointer (some ⟨b3, 0, none⟩)) (MeI w g b1 b2 b3 (b1 + 3) n) (memS S (valF S n)) [] (fun l k => l.length ≤ k)
          (fun x i y j hx hs => by have := mem_len hs; have := (mem_gain (S := S) (fun _ _ _ h => val_gain n h) _ _ _ _ hs).1; omega) (fun x i j hij hx => Nat.le_trans hx hij) (Nat.zero_le _)
          (fun W => by rfl) (mem_gain fun _ _ _ h => val_gain n h) (by omega) (fun y W h => by obtain ⟨u, h1, _⟩ := h; exact h1.2.2.1) (fun y W W' h hX => h.px hX)
          (fun y k W hI hQ hP hk hks => memb_run S w g b1 b2 b3 (b1 + 3) n k n y W hI hP hS hks (by omega) fun k' W' h' h1 h2 => HV.out k' W' h' (by omega) h2)
          HD.out.2 ⟨_, HD.out.1, [], World.ownsRow_nil _ _ _ _, rfl⟩ hS hsi)
        obtain ⟨q, hq⟩ : ∃ q, q = sevF S 125 (memS S (valF S n)) [] i := ⟨_, rfl⟩
        rw [← hq] at HR3 HSV
        clear hq HR2
        go_wp2_with fail
        refine HSV.out.mono ?_
        cases q with
        | error f =>
          rintro e w2 ⟨rfl, hx⟩
          have HE2 := hide (show r = .error f from HR3.out)
          have HX := hide hx
          clear hx HR3 HSV
          go_wp2_with fail
          rw [HE2.out]
          exact ⟨rfl, rfl, HX.out⟩
        | ok p =>
          obtain ⟨l, j⟩ := p
          rintro e w2 ⟨rfl, hP, u, hST, hO⟩
          have HE2 := hide (show r = .ok (mkD 6 0 ⟨#[]⟩ [] l, j) from HR3.out)
          have HS2 := hide hST
          have HP2 := hide hP
          obtain ⟨A, q, rfl⟩ := hO.form
          have HD2 := hide (hO.mz (Nat.le_refl _))
          clear hP hST hO HR3 HSV
          have f0 := HS2.out.2.2.2.2.1.frozen 0
          have f1 := HS2.out.2.2.2.2.1.frozen 1
          have f2 := HS2.out.2.2.2.2.1.frozen 2
          have f3 := HS2.out.2.2.2.2.1.frozen 3
          have f4 := HS2.out.2.2.2.2.1.frozen 4
          obtain ⟨r0, r1, r2, r3, r4⟩ := row5 HS2.out.2.2.2.2.1
          obtain ⟨s0, s1, s2, s3, s4⟩ := row5 HS2.out.2.2.2.2.2
          go_wp2_with fail
          refine bodyPost_ret (results_dat rfl _ _ b2 _ _ _ _ _ rfl (row_set5 HS2.out.2.2.2.2.1 _ _ _ _ _)) rfl ?_
          rw [HE2.out]
          exact val_fin HS2.out HP2.out (DZ.nil _ _ _) HD2.out _ _ _ _ _
      have d123 : ((c : Int) == 123) = false := by simp; omega
      have HE2 := hide (show r = .error (19, (i : Int)) by rw [HR2.out, if_neg h91, if_neg h123])
      clear HR2 h91 h123
      go_upto_region 3 with fail
      refine wp_region_any (by kernel_rfl) (wpAny_of_held (S := fun W => W.cell? ⟨b1, 0, none⟩ = some (.pointer (some ⟨g, 0, none⟩)) ∧ W.cell? ⟨g, 1, none⟩ = some (.int .i64 i)) _ _ _ _ ?_)
      have hH : wc.drew.cell? ⟨b1, 0, none⟩ = some (.pointer (some ⟨g, 0, none⟩)) ∧ wc.drew.cell? ⟨g, 1, none⟩ = some (.int .i64 i) := ⟨p1, HC.out.2.cells.2.1⟩
      refine takeH (i := 0) (v := ?_) rfl (by kernel_rfl) (by kernel_rfl) (by kernel_rfl) (fun _ _ _ h => h) (Or.inl ⟨by rfl, ?_⟩) hH ?_
      rotate_left
      · (intro w hSw; (try dsimp only at hSw); go_simp; try with_reducible rfl)
      simp only [Act.put, List.setIfInBounds_toArray, List.set_cons_zero, List.set_cons_succ]
      refine takeH (i := 1) (v := ?_) rfl (by kernel_rfl) (by kernel_rfl) (by kernel_rfl) (fun _ _ _ h => h) (Or.inl ⟨by rfl, ?_⟩) hH ?_
      rotate_left
      · (intro w hSw; (try dsimp only at hSw); go_simp; try with_reducible rfl)
      simp only [Act.put, List.setIfInBounds_toArray, List.set_cons_zero, List.set_cons_succ]
      refine takeH (i := 2) (v := ?_) rfl (by kernel_rfl) (by kernel_rfl) (by kernel_rfl) (fun _ _ _ h => h) (Or.inl ⟨by rfl, ?_⟩) hH ?_
      rotate_left
      · (intro w hSw; (try dsimp only at hSw); go_simp; try with_reducible rfl)
      simp only [Act.put, List.setIfInBounds_toArray, List.set_cons_zero, List.set_cons_succ]
      refine takeH (i := 3) (v := ?_) rfl (by kernel_rfl) (by kernel_rfl) (by kernel_rfl) (fun _ _ _ h => h) (Or.inl ⟨by rfl, ?_⟩) hH ?_
      rotate_left
      · (intro w hSw; (try dsimp only at hSw); go_simp; try with_reducible rfl)
      simp only [Act.put, List.setIfInBounds_toArray, List.set_cons_zero, List.set_cons_succ]
      refine takeH (i := 4) (v := ?_) rfl (by kernel_rfl) (by kernel_rfl) (by kernel_rfl) (fun _ _ _ h => h) (Or.inl ⟨by rfl, ?_⟩) hH ?_
      rotate_left
      · (intro w hSw; (try dsimp only at hSw); go_simp; try with_reducible rfl)
      simp only [Act.put, List.setIfInBounds_toArray, List.set_cons_zero, List.set_cons_succ]
      refine oneH (i := 5) rfl (by kernel_rfl) (fun K hK => ?_)
      go_simp
      go_at_call 25
      refine (HF.out _).mono ?_; rintro e w2 ⟨rfl, rfl⟩
      rw [HE2.out]
      exact ⟨rfl, rfl, HC.out.1.2.2.1.drew⟩
end Go.Proofs.YtmmbbndoimleaaaGreatDoor

/- The deferred closure of Parse. -/
namespace Go.Proofs.YtmmbbndoimleaaaGreatDoor
open Go.RowKit

set_option maxRecDepth 20000 in
set_option maxHeartbeats 200000 in
theorem catch_run (gd gf gp : Nat) (e a : Int) (w : World) (D F : List Value) (hd : Row w gd 25 D) (hD : D.length = 5) (hf : Row w gf 32 F) (hF : F.length = 2) (hne : gd ≠ gf) :
    CallsD Tryz.prog 22 #[.pointer (some ⟨gd, 0, none⟩), .pointer (some ⟨gf, 0, none⟩), .pointer (some ⟨gp, 0, none⟩)] (.panicking ({ v := fV (e, a), recovered := false } :: [])) w fun r u' w' =>
      r = .returned (.tuple #[]) ∧ u' = .panicking ({ v := fV (e, a), recovered := true } :: []) ∧ Row w' gd 25 [.int .i64 0, .int .i64 0, .string ⟨#[]⟩, .slice none 0 0, .slice none 0 0] ∧ Row w' gf 32 [.int .i64 e, .int .i64 a] ∧ Below 0 w w' ∧
        ∀ k, k < w.heap.size → k ≠ gd → k ≠ gf → w'.heap[k]? = w.heap[k]? := by
  refine callsD_of_wpS Tryz.func22 rfl fun c₀ cs hu => ?_
  apply wpS_seq
  apply wpS_region
  simp [wpOpsS, go_sem, recoverD, hu, Tryz.ntmps22, Exit.thenS, fV]
  apply wpS_seq
  apply wpS_region
  simp [wpOpsS, go_sem, Exit.thenS, Array.replicate, List.replicate]
  refine wpS_cond (t := true) (by simp [Act.eval]) ?_
  simp only [if_true]
  refine wpS_of_wp ?_
  have hd1 := hd.alloc (.cells #[.int .i64 e, .int .i64 a] 48)
  have hf1 := hf.alloc (.cells #[.int .i64 e, .int .i64 a] 48)
  have hn1 := Row.new w 48 [.int .i64 e, .int .i64 a]
  obtain ⟨w1, hw1⟩ : ∃ W, W = w.alloc (.cells #[.int .i64 e, .int .i64 a] 48) := ⟨_, rfl⟩
  obtain ⟨gy, hgy⟩ : ∃ k, k = w.heap.size := ⟨_, rfl⟩
  have hta : ∀ (v : Value) (W : World), (Instr.typeAssert (.iface 48 v) 20 48 true).run Tryz.prog W = .ok (.tuple #[v, .bool true]) W := fun v W => by kernel_rfl
  rw [← hw1] at hd1 hf1 hn1
  rw [← hgy] at hn1
  go_upto_region 3 with fail
  rw [← hw1, ← hgy]
  obtain ⟨d0, d1, d2, d3, d4, rfl⟩ : ∃ d0 d1 d2 d3 d4, D = [d0, d1, d2, d3, d4] := by
    match D, hD with
    | [d0, d1, d2, d3, d4], _ => exact ⟨_, _, _, _, _, rfl⟩
  obtain ⟨e0, e1, rfl⟩ : ∃ e0 e1, F = [e0, e1] := by
    match F, hF with
    | [e0, e1], _ => exact ⟨_, _, rfl⟩
  have hgd : gd ≠ gy := by have := hd.lt; omega
  have hgf : gf ≠ gy := by have := hf.lt; omega
  have HD := hide hd1; have HF := hide hf1; have HY := hide hn1
  have HW := hide (And.intro hw1 hgy)
  have c0 : w1.cell? ⟨gd, 0, none⟩ = some d0 := hd1.cell 0
  have c1 : w1.cell? ⟨gd, 1, none⟩ = some d1 := hd1.cell 1
  have c2 : w1.cell? ⟨gd, 2, none⟩ = some d2 := hd1.cell 2
  have c3 : w1.cell? ⟨gd, 3, none⟩ = some d3 := hd1.cell 3
  have c4 : w1.cell? ⟨gd, 4, none⟩ = some d4 := hd1.cell 4
  have f0 := hd1.frozen 0
  have f1 := hd1.frozen 1
  have f2 := hd1.frozen 2
  have f3 := hd1.frozen 3
  have f4 := hd1.frozen 4
  have g0 : w1.cell? ⟨gf, 0, none⟩ = some e0 := hf1.cell 0
  have g1 : w1.cell? ⟨gf, 1, none⟩ = some e1 := hf1.cell 1
  have k0 := hf1.frozen 0
  have k1 := hf1.frozen 1
  have y0 : w1.cell? ⟨gy, 0, none⟩ = some (.int .i64 e) := hn1.cell 0
  have y1 : w1.cell? ⟨gy, 1, none⟩ = some (.int .i64 a) := hn1.cell 1
  clear hd hf hd1 hf1 hn1 hw1 hgy
  have hne2 := Ne.symm hne
  go_wp2_with fail
  have hB0 : Below 0 w w1 := by rw [HW.out.1]; exact (Below.refl 0 w).alloc (Nat.zero_le _) _
  have hK0 : ∀ k, k < w.heap.size → w1.heap[k]? = w.heap[k]? := fun k k1 => by rw [HW.out.1]; exact Below.heap_alloc _ _ k (by omega)
  have r1 := ((((((HD.out.set_ 0 (.int .i64 0)).set_ 1 (.int .i64 0)).set_ 2 (.string ⟨#[]⟩)).set_ 3 (.slice none 0 0)).set_ 4 (.slice none 0 0)).far (p := ⟨gf, 0, none⟩) hne (.int .i64 e)).far (p := ⟨gf, 1, none⟩) hne (.int .i64 a)
  have r2 := ((((((HF.out.far (p := ⟨gd, 0, none⟩) hne2 (.int .i64 0)).far (p := ⟨gd, 1, none⟩) hne2 (.int .i64 0)).far (p := ⟨gd, 2, none⟩) hne2 (.string ⟨#[]⟩)).far (p := ⟨gd, 3, none⟩) hne2 (.slice none 0 0)).far (p := ⟨gd, 4, none⟩) hne2 (.slice none 0 0)).set_ 0 (.int .i64 e)).set_ 1 (.int .i64 a)
  have r3 : Below 0 w (((((((w1.setCell ⟨gd, 0, none⟩ (.int .i64 0)).setCell ⟨gd, 1, none⟩ (.int .i64 0)).setCell ⟨gd, 2, none⟩ (.string ⟨#[]⟩)).setCell ⟨gd, 3, none⟩ (.slice none 0 0)).setCell ⟨gd, 4, none⟩ (.slice none 0 0)).setCell ⟨gf, 0, none⟩ (.int .i64 e)).setCell ⟨gf, 1, none⟩ (.int .i64 a)) := (((((((hB0.setCell (p := ⟨gd, 0, none⟩) (Nat.zero_le _) _).setCell (p := ⟨gd, 1, none⟩) (Nat.zero_le _) _).setCell (p := ⟨gd, 2, none⟩) (Nat.zero_le _) _).setCell (p := ⟨gd, 3, none⟩) (Nat.zero_le _) _).setCell (p := ⟨gd, 4, none⟩) (Nat.zero_le _) _).setCell (p := ⟨gf, 0, none⟩) (Nat.zero_le _) _).setCell (p := ⟨gf, 1, none⟩) (Nat.zero_le _) _)
  have r4 : ∀ k, k < w.heap.size → k ≠ gd → k ≠ gf → (((((((w1.setCell ⟨gd, 0, none⟩ (.int .i64 0)).setCell ⟨gd, 1, none⟩ (.int .i64 0)).setCell ⟨gd, 2, none⟩ (.string ⟨#[]⟩)).setCell ⟨gd, 3, none⟩ (.slice none 0 0)).setCell ⟨gd, 4, none⟩ (.slice none 0 0)).setCell ⟨gf, 0, none⟩ (.int .i64 e)).setCell ⟨gf, 1, none⟩ (.int .i64 a)).heap[k]? = w.heap[k]? := fun k k1 k2 k3 => by
    rw [Below.heap_setCell _ _ _ _ (show k ≠ gf from k3), Below.heap_setCell _ _ _ _ (show k ≠ gf from k3), Below.heap_setCell _ _ _ _ (show k ≠ gd from k2), Below.heap_setCell _ _ _ _ (show k ≠ gd from k2), Below.heap_setCell _ _ _ _ (show k ≠ gd from k2), Below.heap_setCell _ _ _ _ (show k ≠ gd from k2), Below.heap_setCell _ _ _ _ (show k ≠ gd from k2), hK0 k k1]
  obtain ⟨W, hW⟩ : ∃ W, W = (((((((w1.setCell ⟨gd, 0, none⟩ (.int .i64 0)).setCell ⟨gd, 1, none⟩ (.int .i64 0)).setCell ⟨gd, 2, none⟩ (.string ⟨#[]⟩)).setCell ⟨gd, 3, none⟩ (.slice none 0 0)).setCell ⟨gd, 4, none⟩ (.slice none 0 0)).setCell ⟨gf, 0, none⟩ (.int .i64 e)).setCell ⟨gf, 1, none⟩ (.int .i64 a)) := ⟨_, rfl⟩
  rw [← hW] at r1 r2 r3 r4 ⊢
  have q : ∀ k, k < w.heap.size → ¬k = gd → ¬k = gf → W.heap[k]? = w.heap[k]? := r4
  simp only [bodyPostS]
  simp [results, Tryz.results22]
  exact ⟨r1, r2, r3, q⟩
set_option maxHeartbeats 400000 in
theorem catch_idle (gd gf gp : Nat) (w : World) :
    CallsD Tryz.prog 22 #[.pointer (some ⟨gd, 0, none⟩), .pointer (some ⟨gf, 0, none⟩), .pointer (some ⟨gp, 0, none⟩)] .returning w fun r u' w' => r = .returned (.tuple #[]) ∧ u' = .returning ∧ w' = w := by
  refine callsD_of_wpS Tryz.func22 rfl fun c₀ cs hu => ?_
  apply wpS_seq
  apply wpS_region
  simp [wpOpsS, go_sem, recoverD, hu, Tryz.ntmps22, Exit.thenS]
  apply wpS_seq
  apply wpS_region
  simp [wpOpsS, go_sem, Exit.thenS, Array.replicate]
  refine wpS_cond (t := false) (by simp [Act.eval]) ?_
  simp only [Bool.false_eq_true, if_false]
  refine wpS_of_wp (wp_skip ?_)
  cases c₀
  simp_all [bodyPostS, results, Tryz.results22]
end Go.Proofs.YtmmbbndoimleaaaGreatDoor

/- Parse. -/
namespace Go.Proofs.YtmmbbndoimleaaaGreatDoor
open Go.RowKit

/-- What Parse answers: the data and the fault. -/
def parseF (S : ByteArray) : Dt × Flt :=
  if 65536 < S.size then (zeroD, (2, 0)) else
  match valF S (S.size + 1) (blk S 0) with
  | .error f => (zeroD, f)
  | .ok (d, j) => if blk S j < S.size then (zeroD, (19, (blk S j : Nat))) else
    if checkD (cleanF (S.size + 1) 1 d) = 0 then (cleanF (S.size + 1) 1 d, (0, 0)) else (zeroD, (checkD (cleanF (S.size + 1) 1 d), 0))
def ParsePost (w : World) (m : Nat) (p : Dt × Flt) (e : Ending) (w' : World) : Prop :=
  ∃ a c a' c', e = .returned (.tuple #[datV p.1 a c a' c', .agg #[.int .i64 p.2.1, .int .i64 p.2.2]]) ∧ PZ w.heap.size none w' m p.1 a c a' c' ∧ Below w.heap.size w w'

theorem infoSizeF : (Tryz.prog.info? 32).map (·.size) = some 2 := by kernel_rfl
theorem results_df {fn : Func} {p u : Tmp} (h : fn.results = #[.cell p 25, .cell u 32]) (tmps : Array Value) (w : World) (g g' : Nat) (a b c d e f k : Value)
    (hp : tmps.getD p undef = .pointer (some ⟨g, 0, none⟩)) (hR : Row w g 25 [a, b, c, d, e]) (hu : tmps.getD u undef = .pointer (some ⟨g', 0, none⟩)) (hF : Row w g' 32 [f, k]) :
    (results fn tmps).run Tryz.prog w = .ok (.tuple #[.agg #[a, b, c, d, e], .agg #[f, k]]) w := by
  obtain ⟨fr, hr⟩ := row_heap hR
  obtain ⟨fr', hr'⟩ := row_heap hF
  have hl := run_loadVar_row (P := Tryz.prog) w g 25 25 _ fr _ hr Tryz.underlying25 rfl infoSizeD
  have hl' := run_loadVar_row (P := Tryz.prog) w g' 32 32 _ fr' _ hr' Tryz.underlying32 rfl infoSizeF
  have hp' : tmps[p]?.getD undef = .pointer (some ⟨g, 0, none⟩) := by simpa using hp
  have hu' : tmps[u]?.getD undef = .pointer (some ⟨g', 0, none⟩) := by simpa using hu
  simp only [results, h]
  simp [hp', hu', asAddr, hl, hl', Sem.run_bind, Result.andThen]
theorem zero_pz (lo : Nat) (w : World) (m : Nat) : PZ lo none w (m + 1) zeroD none 0 none 0 := fun _ _ _ => zero_parts _ _ _
/-- The last stores of Parse. -/
theorem parse_fin {w0 w W : World} {gd gf lo m : Nat} {y0 y1 y2 y3 y4 x0 x1 x2 x3 x4 f0 f1 : Value} (h3 : ∃ d0 d1 d2 d3 d4, Row w gd 25 [d0, d1, d2, d3, d4]) (h4 : ∃ e0 e1, Row w gf 32 [e0, e1]) (hne : gd ≠ gf) (hB : Below w0.heap.size w0 w) (hg : w0.heap.size ≤ gd ∧ w0.heap.size ≤ gf) (hl : gd < lo ∧ gf < lo ∧ w0.heap.size ≤ lo)
    (hW : W = ((set5 (set5 w gd y0 y1 y2 y3 y4) gd x0 x1 x2 x3 x4).setCell ⟨gf, 0, none⟩ f0).setCell ⟨gf, 1, none⟩ f1) :
    Row W gd 25 [x0, x1, x2, x3, x4] ∧ Row W gf 32 [f0, f1] ∧ Below w0.heap.size w0 W ∧ (∀ d a c a' c', PZ lo none w m d a c a' c' → PZ w0.heap.size none W m d a c a' c') := by
  obtain ⟨d0, d1, d2, d3, d4, h3⟩ := h3
  obtain ⟨e0, e1, h4⟩ := h4
  subst hW
  refine ⟨((row_set5 (row_set5 h3 y0 y1 y2 y3 y4) x0 x1 x2 x3 x4).far (p := ⟨gf, 0, none⟩) hne _).far (p := ⟨gf, 1, none⟩) hne _, ((row_far5 (row_far5 h4 (Ne.symm hne) y0 y1 y2 y3 y4) (Ne.symm hne) x0 x1 x2 x3 x4).set_ 0 f0).set_ 1 f1,
    ((below_set5 (below_set5 hB hg.1 y0 y1 y2 y3 y4) hg.1 x0 x1 x2 x3 x4).setCell (p := ⟨gf, 0, none⟩) hg.2 _).setCell (p := ⟨gf, 1, none⟩) hg.2 _, fun d a c a' c' h => ?_⟩
  refine h.turn (by simp only [csize_set, set5_size]; exact Nat.le_refl _) fun k k1 k2 _ => ⟨?_, by omega, by simp⟩
  rw [Below.heap_setCell _ _ _ _ (by show k ≠ gf; omega), Below.heap_setCell _ _ _ _ (by show k ≠ gf; omega), set5_heap _ _ _ _ _ _ _ (by omega), set5_heap _ _ _ _ _ _ _ (by omega)]
/-- The blocks of a call of Parse: the two results, the parser, its pointer. -/
def PaSt (w : World) (gd gf gp gt : Nat) (S : ByteArray) (k : Nat) (D : List Value) (W : World) : Prop :=
  (w.heap.size = gd ∧ gf = gd + 1 ∧ gp = gd + 2 ∧ gt = gd + 3) ∧ gd + 4 ≤ W.heap.size ∧ Below w.heap.size w W ∧ Row W gd 25 D ∧ Row W gf 32 [.int .i64 0, .int .i64 0] ∧ Pr W gp S k ∧ Row W gt 44 [.pointer (some ⟨gp, 0, none⟩)]
theorem PaSt.px {w W W' : World} {gd gf gp gt : Nat} {S : ByteArray} {k j : Nat} {D : List Value} (h : PaSt w gd gf gp gt S k D W) (hX : Px gp W W') (hP : Pr W' gp S j) : PaSt w gd gf gp gt S j D W' := by
  obtain ⟨h0, h1, h2, h3, h4, _, h6⟩ := h
  exact ⟨h0, Nat.le_trans h1 hX.size, Px.to_below h2 hX (by omega) (by omega), (hX.2 gd (by omega) (by omega)).trans h3, (hX.2 gf (by omega) (by omega)).trans h4, hP, (hX.2 gt (by omega) (by omega)).trans h6⟩

theorem leaves_same {P : Program} {fn : Func} {t t' : Array Value} {R : Ending → World → Prop} (h : results fn t = results fn t') : ∀ (ds : List Deferred) (u : FrameMode) (w : World), Leaves P fn t R ds u w → Leaves P fn t' R ds u w
  | [], .returning, w, hl => by unfold Leaves at hl ⊢; rw [← h]; exact hl
  | [], .panicking c, w, hl => hl
  | [], .run, w, hl => hl
  | d :: ds, u, w, hl => by
    obtain ⟨h1, fv, cap, f, args, h2, h3, h4⟩ := hl
    refine ⟨h1, fv, cap, f, args, h2, h3, ?_⟩
    refine CallsD.mono h4 fun e u' w' he => ?_
    cases e with
    | returned v => exact leaves_same h ds _ _ he
    | panicked c => exact leaves_same h ds _ _ he
    | outgrown => exact he
theorem parse_put {R : Ending → World → Prop} {k : Nat} {v : Value} {c : List PanicEntry} {a : Act} {w : World} (hk : (k != 2 && k != 3) = true) (h : bodyPostD Tryz.prog Tryz.f13 R (.panic c) (a.put (some k) v) w) : bodyPostD Tryz.prog Tryz.f13 R (.panic c) a w := by
  simp at hk
  have e : results Tryz.f13 (a.put (some k) v).tmps = results Tryz.f13 a.tmps := by
    have h2 : (a.put (some k) v).tmps[2]? = a.tmps[2]? := by simp [Act.put, hk.1]
    have h3 : (a.put (some k) v).tmps[3]? = a.tmps[3]? := by simp [Act.put, hk.2]
    simp only [results, Tryz.results13]
    simp [h2, h3]
  exact leaves_same e _ _ _ h
abbrev doorD (gd gf gt : Nat) : List Deferred := [{ target := .fn (.func 22) #[.pointer (some ⟨gd, 0, none⟩), .pointer (some ⟨gf, 0, none⟩), .pointer (some ⟨gt, 0, none⟩)], args := #[] }]
/-- The door, by a panic. -/
theorem parse_catch {w W : World} {gd gf gt : Nat} {m : Nat} {D : List Value} (h3 : Row W gd 25 D) (h4 : Row W gf 32 [.int .i64 0, .int .i64 0]) (h0 : w.heap.size ≤ gd ∧ w.heap.size ≤ gf ∧ gd ≠ gf) (h2 : Below w.heap.size w W) (hD : D.length = 5) (f : Flt) (tmps : Array Value) (hp : tmps.getD 2 undef = .pointer (some ⟨gd, 0, none⟩)) (hu : tmps.getD 3 undef = .pointer (some ⟨gf, 0, none⟩)) :
    Leaves Tryz.prog Tryz.f13 tmps (ParsePost w (m + 1) (zeroD, f)) (doorD gd gf gt) (.panicking [{ v := fV f, recovered := false }]) W := by
  refine leaves_cons (f := 22) (args := #[.pointer (some ⟨gd, 0, none⟩), .pointer (some ⟨gf, 0, none⟩), .pointer (some ⟨gt, 0, none⟩)]) (by simp) (by simp [go_sem]) ?_
  refine (catch_run gd gf gt f.1 f.2 W D _ h3 hD h4 rfl h0.2.2).mono ?_
  rintro e u' w' ⟨rfl, rfl, r1, r2, r3, r4⟩
  simp only [settle]
  refine ⟨_, results_df rfl _ _ gd gf _ _ _ _ _ _ _ hp r1 hu r2, none, 0, none, 0, rfl, zero_pz _ _ _, ?_⟩
  exact h2.trans ⟨r3.os, r3.tape, r3.output, r3.size, fun k hk => r4 k (by have := h2.size; omega) (by omega) (by omega)⟩
/-- The door, by a return. -/
theorem parse_idle {w W : World} {gd gf gt : Nat} {m : Nat} {p : Dt × Flt} {a c a' c'} (tmps : Array Value) (hp : tmps.getD 2 undef = .pointer (some ⟨gd, 0, none⟩)) (hu : tmps.getD 3 undef = .pointer (some ⟨gf, 0, none⟩))
    (hd : Row W gd 25 (datCs p.1 a c a' c')) (hf : Row W gf 32 [.int .i64 p.2.1, .int .i64 p.2.2]) (hP : PZ w.heap.size none W m p.1 a c a' c') (hB : Below w.heap.size w W) :
    Leaves Tryz.prog Tryz.f13 tmps (ParsePost w m p) (doorD gd gf gt) .returning W := by
  refine leaves_cons (f := 22) (args := #[.pointer (some ⟨gd, 0, none⟩), .pointer (some ⟨gf, 0, none⟩), .pointer (some ⟨gt, 0, none⟩)]) (by simp) (by simp [go_sem]) ?_
  refine (catch_idle gd gf gt W).mono ?_
  rintro e u' w' ⟨rfl, rfl, rfl⟩
  exact ⟨_, results_df rfl _ _ gd gf _ _ _ _ _ _ _ hp hd hu hf, a, c, a', c', rfl, hP, hB⟩

set_option maxRecDepth 20000 in
set_option maxHeartbeats 1000000 in
theorem Parse_run (S : ByteArray) (w : World) : Calls Tryz.prog 13 #[.string S] w (ParsePost w (S.size + 1) (parseF S)) := by
  obtain ⟨r, hr⟩ : ∃ r, r = parseF S := ⟨_, rfl⟩
  rw [← hr]
  unfold parseF at hr
  by_cases hbig : 65536 < S.size
  · rw [if_pos hbig] at hr
    have g0 : (65536 : Int) < (S.size : Int) := by omega
    have HR := Lib.hid hr
    clear hr
    go_enter_defers Tryz.func13, Tryz.ntmps13
    go_wp2_with fail
    have rD := (Row.new w 25 [.int .i64 0, .int .i64 0, .string ⟨#[]⟩, .slice none 0 0, .slice none 0 0]).alloc (.cells #[.int .i64 2, .int .i64 0] 32)
    have rF := Row.new (w.alloc (.cells #[.int .i64 0, .int .i64 0, .string ⟨#[]⟩, .slice none 0 0, .slice none 0 0] 25)) 32 [.int .i64 2, .int .i64 0]
    rw [show (w.alloc (.cells #[.int .i64 0, .int .i64 0, .string ⟨#[]⟩, .slice none 0 0, .slice none 0 0] 25)).heap.size = w.heap.size + 1 by simp] at rF
    rw [HR.out]
    refine ⟨_, results_df rfl _ _ w.heap.size (w.heap.size + 1) _ _ _ _ _ _ _ rfl rD rfl rF, none, 0, none, 0, rfl, zero_pz _ _ _, ?_⟩
    exact ((Below.refl _ _).alloc (Nat.le_refl _) _).alloc (by simp) _
  · rw [if_neg hbig] at hr
    have g0 : ¬ (65536 : Int) < (S.size : Int) := by omega
    have HR := Lib.hid hr
    clear hr
    go_enter_defers Tryz.func13, Tryz.ntmps13
    go_upto_region 5 with fail
    obtain ⟨gd, hgd⟩ : ∃ b, b = w.heap.size := ⟨_, rfl⟩
    obtain ⟨gf, hgf⟩ : ∃ b, b = w.heap.size + 1 := ⟨_, rfl⟩
    obtain ⟨gp, hgp⟩ : ∃ b, b = w.heap.size + 1 + 1 := ⟨_, rfl⟩
    obtain ⟨gt, hgt⟩ : ∃ b, b = w.heap.size + 1 + 1 + 1 := ⟨_, rfl⟩
    rw [← hgt, ← hgp, ← hgf, ← hgd]
    obtain ⟨wa, hwa⟩ : ∃ W, W = (((w.alloc (.cells #[.int .i64 0, .int .i64 0, .string ⟨#[]⟩, .slice none 0 0, .slice none 0 0] 25)).alloc (.cells #[.int .i64 0, .int .i64 0] 32)).alloc (.cells #[.string S, .int .i64 0] 46)).alloc (.cells #[.pointer (some ⟨gp, 0, none⟩)] 44) := ⟨_, rfl⟩
    have HA := hide (show PaSt w gd gf gp gt S 0 [.int .i64 0, .int .i64 0, .string ⟨#[]⟩, .slice none 0 0, .slice none 0 0] wa by
      subst hwa
      refine ⟨⟨hgd.symm, by omega, by omega, by omega⟩, by simp; omega, ((((Below.refl _ _).alloc (Nat.le_refl _) _).alloc (by simp) _).alloc (by simp; omega) _).alloc (by simp; omega) _, ?_, ?_, ?_, ?_⟩
      · rw [hgd]; exact (((Row.new w _ _).alloc _).alloc _).alloc _
      · rw [hgf]; have := ((Row.new (w.alloc (.cells #[.int .i64 0, .int .i64 0, .string ⟨#[]⟩, .slice none 0 0, .slice none 0 0] 25)) 32 [.int .i64 0, .int .i64 0]).alloc (.cells #[.string S, .int .i64 0] 46)).alloc (.cells #[.pointer (some ⟨gp, 0, none⟩)] 44); simpa using this
      · rw [hgp]; have := (Row.new ((w.alloc (.cells #[.int .i64 0, .int .i64 0, .string ⟨#[]⟩, .slice none 0 0, .slice none 0 0] 25)).alloc (.cells #[.int .i64 0, .int .i64 0] 32)) 46 [.string S, .int .i64 0]).alloc (.cells #[.pointer (some ⟨w.heap.size + 1 + 1, 0, none⟩)] 44); unfold Pr; simpa using this
      · rw [hgt]; have := Row.new (((w.alloc (.cells #[.int .i64 0, .int .i64 0, .string ⟨#[]⟩, .slice none 0 0, .slice none 0 0] 25)).alloc (.cells #[.int .i64 0, .int .i64 0] 32)).alloc (.cells #[.string S, .int .i64 0] 46)) 44 [.pointer (some ⟨gp, 0, none⟩)]; simpa using this)
    rw [← hwa]
    clear hwa hgd hgf hgp hgt
    have HBL := hide (blanks_run S gp 0 wa HA.out.2.2.2.2.2.1 (by omega) (by omega))
    have p1 : wa.cell? ⟨gt, 0, none⟩ = some (.pointer (some ⟨gp, 0, none⟩)) := HA.out.2.2.2.2.2.2.cell 0
    go_wp2_with fail
    refine HBL.out.mono ?_; rintro e w1 ⟨rfl, hP, hX⟩
    obtain ⟨i0, hi⟩ : ∃ k, k = blk S 0 := ⟨_, rfl⟩
    have hi0 : i0 ≤ S.size := by rw [hi]; exact run_le _ (by omega)
    rw [← hi] at HR hP
    have H1 := hide (HA.out.px hX hP)
    clear hi HBL HA p1 hP hX
    have p1 : w1.cell? ⟨gt, 0, none⟩ = some (.pointer (some ⟨gp, 0, none⟩)) := H1.out.2.2.2.2.2.2.cell 0
    have HV := hide (value_run S gp (by omega) (S.size + 1) i0 w1 H1.out.2.2.2.2.2.1 hi0 (by omega))
    obtain ⟨x, hx⟩ : ∃ x, x = valF S (S.size + 1) i0 := ⟨_, rfl⟩
    rw [← hx] at HV HR
    have HXV := Lib.hid hx
    clear hx
    go_wp2_with fail
    refine HV.out.mono ?_
    cases x with
    | error f =>
      rintro e w2 ⟨rfl, hx⟩
      have HX := hide hx
      clear hx HV
      go_wp2_with fail
      rw [show r = (zeroD, f) from HR.out]
      obtain ⟨a0, a1, a2, a3, a4, a5, a6⟩ := H1.out
      exact parse_catch ((HX.out.2 gd (by omega) (by omega)).trans a3) ((HX.out.2 gf (by omega) (by omega)).trans a4) (by omega) (Px.to_below a2 HX.out (by omega) (by omega)) rfl f _ rfl rfl
    | ok p =>
      obtain ⟨d, j⟩ := p
      rintro e w2 ⟨⟨a, c, a', c', rfl, hPZ⟩, hP2, hX2⟩
      obtain ⟨j1, j2⟩ := val_gain _ HXV.out.symm
      have HFIT := hide fun r => val_fit (by omega) (S.size + 1) r HXV.out.symm
      have H2 := hide (H1.out.px hX2 hP2)
      have HZ2 := hide hPZ
      have hlo : gd < w1.heap.size ∧ gp < w1.heap.size := by have := H1.out.1; have := H1.out.2.1; omega
      clear hPZ hP2 hX2 HV HXV p1 H1
      unfold datV datCs
      obtain ⟨t0, t1, t2, t3, t4⟩ := row5 H2.out.2.2.2.1
      have f0 := H2.out.2.2.2.1.frozen 0
      have f1 := H2.out.2.2.2.1.frozen 1
      have f2 := H2.out.2.2.2.1.frozen 2
      have f3 := H2.out.2.2.2.1.frozen 3
      have f4 := H2.out.2.2.2.1.frozen 4
      go_upto_region 7 with fail
      obtain ⟨w3, hw3⟩ : ∃ W, W = set5 w2 gd (.int .i64 (kD d)) (.int .i64 (nD d)) (.string (sD d)) (.slice a (iD d).length c) (.slice a' (mD d).length c') := ⟨_, rfl⟩
      have H3 := hide (show PaSt w gd gf gp gt S j (datCs d a c a' c') w3 by
        rw [hw3]
        obtain ⟨a0, a1, a2, a3, a4, a5, a6⟩ := H2.out
        exact ⟨a0, by rw [set5_size]; exact a1, below_set5 a2 (by omega) _ _ _ _ _, row_set5 a3 _ _ _ _ _, row_far5 a4 (by omega) _ _ _ _ _, row_far5 a5 (by omega) _ _ _ _ _, row_far5 a6 (by omega) _ _ _ _ _⟩)
      have HZ3 := hide (show PZ w1.heap.size none w3 (S.size + 1) d a c a' c' by
        rw [hw3]
        exact HZ2.out.turn (by rw [set5_size]; exact Nat.le_refl _) fun k k1 k2 _ => ⟨set5_heap _ _ _ _ _ _ _ (by omega), k1, by simp⟩)
      unfold set5 at hw3
      rw [← hw3]
      clear hw3 H2 HZ2 t0 t1 t2 t3 t4 f0 f1 f2 f3 f4
      have p1 : w3.cell? ⟨gt, 0, none⟩ = some (.pointer (some ⟨gp, 0, none⟩)) := H3.out.2.2.2.2.2.2.cell 0
      have HBL := hide (blanks_run S gp j w3 H3.out.2.2.2.2.2.1 (by omega) j2)
      obtain ⟨k, hk⟩ : ∃ k, k = blk S j := ⟨_, rfl⟩
      have hks : k ≤ S.size := by rw [hk]; exact run_le _ j2
      have HR2 := hide (show r = if k < S.size then (zeroD, (19, (k : Int))) else if checkD (cleanF (S.size + 1) 1 d) = 0 then (cleanF (S.size + 1) 1 d, (0, 0)) else (zeroD, (checkD (cleanF (S.size + 1) 1 d), 0)) by rw [HR.out, hk])
      rw [← hk] at HBL
      clear hk HR
      go_wp2_with fail
      refine HBL.out.mono ?_; rintro e w4 ⟨rfl, hP, hX⟩
      have H4 := hide (H3.out.px hX hP)
      have HZ4 := hide (pz_px HZ3.out hX hlo.2)
      clear hP hX HBL H3 HZ3 p1
      have p1 : w4.cell? ⟨gt, 0, none⟩ = some (.pointer (some ⟨gp, 0, none⟩)) := H4.out.2.2.2.2.2.2.cell 0
      obtain ⟨c0, c1, c2⟩ := H4.out.2.2.2.2.2.1.cells
      by_cases hks2 : k < S.size
      · have HE := hide (show r = (zeroD, (19, (k : Int))) by rw [HR2.out, if_pos hks2])
        have g1 : (k : Int) < (S.size : Int) := by omega
        have HF := hide fun V => fail_run (.pointer (some ⟨gp, 0, none⟩)) 19 (k : Nat) V
        clear HR2
        go_upto_region 9 with fail
        refine wp_region_any (by kernel_rfl) (wpAny_of_held (S := fun W => W.cell? ⟨gt, 0, none⟩ = some (.pointer (some ⟨gp, 0, none⟩)) ∧ W.cell? ⟨gp, 1, none⟩ = some (.int .i64 k)) _ _ _ _ ?_)
        have hH : w4.drew.cell? ⟨gt, 0, none⟩ = some (.pointer (some ⟨gp, 0, none⟩)) ∧ w4.drew.cell? ⟨gp, 1, none⟩ = some (.int .i64 k) := ⟨p1, c1⟩
        refine takeH (i := 0) (v := ?_) rfl (by kernel_rfl) (by kernel_rfl) (by kernel_rfl) (fun _ _ _ h => parse_put (by decide) h) (Or.inl ⟨by rfl, ?_⟩) hH ?_
        rotate_left
        · (intro w hSw; (try dsimp only at hSw); go_simp; try with_reducible rfl)
        simp only [Act.put, List.setIfInBounds_toArray, List.set_cons_zero, List.set_cons_succ]
        refine takeH (i := 1) (v := ?_) rfl (by kernel_rfl) (by kernel_rfl) (by kernel_rfl) (fun _ _ _ h => parse_put (by decide) h) (Or.inl ⟨by rfl, ?_⟩) hH ?_
        rotate_left
        · (intro w hSw; (try dsimp only at hSw); go_simp; try with_reducible rfl)
        simp only [Act.put, List.setIfInBounds_toArray, List.set_cons_zero, List.set_cons_succ]
        refine takeH (i := 2) (v := ?_) rfl (by kernel_rfl) (by kernel_rfl) (by kernel_rfl) (fun _ _ _ h => parse_put (by decide) h) (Or.inl ⟨by rfl, ?_⟩) hH ?_
        rotate_left
        · (intro w hSw; (try dsimp only at hSw); go_simp; try with_reducible rfl)
        simp only [Act.put, List.setIfInBounds_toArray, List.set_cons_zero, List.set_cons_succ]
        refine takeH (i := 3) (v := ?_) rfl (by kernel_rfl) (by kernel_rfl) (by kernel_rfl) (fun _ _ _ h => parse_put (by decide) h) (Or.inl ⟨by rfl, ?_⟩) hH ?_
        rotate_left
        · (intro w hSw; (try dsimp only at hSw); go_simp; try with_reducible rfl)
        simp only [Act.put, List.setIfInBounds_toArray, List.set_cons_zero, List.set_cons_succ]
        refine takeH (i := 4) (v := ?_) rfl (by kernel_rfl) (by kernel_rfl) (by kernel_rfl) (fun _ _ _ h => parse_put (by decide) h) (Or.inl ⟨by rfl, ?_⟩) hH ?_
        rotate_left
        · (intro w hSw; (try dsimp only at hSw); go_simp; try with_reducible rfl)
        simp only [Act.put, List.setIfInBounds_toArray, List.set_cons_zero, List.set_cons_succ]
        refine oneH (i := 5) rfl (by kernel_rfl) (fun K hK => ?_)
        go_simp
        go_at_call 25
        refine (HF.out _).mono ?_; rintro e w5 ⟨rfl, rfl⟩
        rw [HE.out]
        obtain ⟨a0, a1, a2, a3, a4, a5, a6⟩ := H4.out
        exact parse_catch (W := w4.drew) a3 a4 (by omega) a2.drew rfl (19, (k : Int)) _ rfl rfl
      · obtain ⟨R, hR⟩ : ∃ R, R = cleanF (S.size + 1) 1 d := ⟨_, rfl⟩
        have HM := hide (Make_runZ (S.size + 1) d a c a' c' w4 HZ4.out.parts HFIT.out)
        have HR3 := hide (show r = if checkD R = 0 then (R, (0, 0)) else (zeroD, (checkD R, 0)) by rw [HR2.out, if_neg hks2, hR])
        rw [← hR] at HM
        unfold MakePostZ datV datCs at HM
        obtain ⟨z, hz⟩ : ∃ z, z = checkD R := ⟨_, rfl⟩
        rw [← hz] at HM HR3
        have g1 : ¬ (k : Int) < (S.size : Int) := by omega
        obtain ⟨t0, t1, t2, t3, t4⟩ := row5 H4.out.2.2.2.1
        clear hR hz HR2
        go_wp2_with fail
        refine HM.out.mono ?_; rintro e w5 ⟨X, b, q, b', q', rfl, hX, hP5, hB5⟩
        obtain ⟨a0, a1, a2, a3, a4, a5, a6⟩ := H4.out
        have a3 := a3.below hB5
        have a4 := a4.below hB5
        have HB5 := hide (a2.trans (hB5.mono a2.size))
        have HZ5 := hide hP5
        have HX := hide hX
        have hne : gd ≠ gf := by omega
        have hne2 := Ne.symm hne
        have HL := hide (show (w.heap.size ≤ gd ∧ w.heap.size ≤ gf) ∧ gd < w4.heap.size ∧ gf < w4.heap.size ∧ w.heap.size ≤ w4.heap.size by omega)
        clear t0 t1 t2 t3 t4 c0 c1 c2 p1 hX hP5 hB5 HM H4 HZ4 a0 a1 a2 a5 a6
        obtain ⟨t0, t1, t2, t3, t4⟩ := row5 a3
        have f0 := a3.frozen 0
        have f1 := a3.frozen 1
        have f2 := a3.frozen 2
        have f3 := a3.frozen 3
        have f4 := a3.frozen 4
        have e0 : w5.cell? ⟨gf, 0, none⟩ = some (.int .i64 0) := a4.cell 0
        have e1 : w5.cell? ⟨gf, 1, none⟩ = some (.int .i64 0) := a4.cell 1
        have k0 := a4.frozen 0
        have k1 := a4.frozen 1
        have HD5 := hide a3; have HF5 := hide a4
        clear a3 a4
        by_cases hz0 : z = 0
        · subst hz0
          have HE := hide (show r = (R, (0, 0)) by rw [HR3.out, if_pos rfl])
          have HXR := hide (show X = R by rw [HX.out, if_pos rfl])
          clear HR3 HX
          go_wp2_with fail
          obtain ⟨r1, r2, r3, r4⟩ := parse_fin (m := S.size + 1) (lo := w4.heap.size) ⟨_, _, _, _, _, HD5.out⟩ ⟨_, _, HF5.out⟩ hne HB5.out HL.out.1 HL.out.2 rfl
          rw [HE.out, ← HXR.out]
          exact parse_idle _ rfl rfl r1 r2 (r4 _ _ _ _ _ HZ5.out) r3
        · have hz1 : (z != 0) = true := by simpa using hz0
          have HE := hide (show r = (zeroD, (z, 0)) by rw [HR3.out, if_neg hz0])
          clear HR3 HX
          go_wp2_with fail
          obtain ⟨r1, r2, r3, r4⟩ := parse_fin (m := S.size + 1) (lo := w4.heap.size) ⟨_, _, _, _, _, HD5.out⟩ ⟨_, _, HF5.out⟩ hne HB5.out HL.out.1 HL.out.2 rfl
          rw [HE.out]
          exact parse_idle (p := (zeroD, (z, 0))) (a := none) (c := 0) (a' := none) (c' := 0) _ rfl rfl r1 r2 (zero_pz _ _ _) r3
end Go.Proofs.YtmmbbndoimleaaaGreatDoor

/- Depth and sizes, plain. -/
namespace Go.Proofs.YtmmbbndoimleaaaGreatDoor
open Go.RowKit

theorem nx_list (l : List UInt8) (i : Nat) : nx ⟨l.toArray⟩ i = ((l[i]?).getD 0).toNat := by
  have hs : (⟨l.toArray⟩ : ByteArray).size = l.length := by show l.toArray.size = _; simp
  unfold nx
  rw [hs]
  split
  · rename_i h
    rw [← get_bang (by rw [hs]; exact h), List.getElem?_eq_getElem h]; rfl
  · rename_i h
    rw [List.getElem?_eq_none (by omega)]; rfl
theorem mk_size (l : List UInt8) : (⟨l.toArray⟩ : ByteArray).size = l.length := by show l.toArray.size = _; simp
theorem blk_stay {S : ByteArray} {i : Nat} (h : blkB (nx S i) = false) : blk S i = i := run_stop h
/-- Lists in each other. -/
def nestD : Nat → Dt
  | 0 => zeroD
  | 1 => mkD 5 0 ⟨#[]⟩ [] []
  | k + 2 => mkD 5 0 ⟨#[]⟩ [nestD (k + 1)] []
theorem val_ig (S : ByteArray) (n : Nat) : Gain S (itemS (valF S n)) := item_gain fun _ _ _ h => val_gain n h
theorem val_list {S : ByteArray} {m i : Nat} (h : nx S i = 91) : valF S (m + 1) i = match sevF S 93 (itemS (valF S m)) [] i with
      | .error f => .error f
      | .ok (l, j) => .ok (mkD 5 0 ⟨#[]⟩ l [], j) := by
  rw [valF, h]
  rw [if_neg (by decide), if_neg (by decide), if_neg (by decide), if_neg (by decide), if_neg (by decide), if_pos rfl]
  rfl
theorem val_nest {S : ByteArray} {n : Nat} (h1 : ∀ k, k < n → nx S k = 91) (h2 : ∀ k, n ≤ k → k < 2 * n → nx S k = 93) (hs : S.size = 2 * n) :
    ∀ (k m : Nat), k + 1 ≤ n → k + 1 ≤ m → valF S m (n - (k + 1)) = .ok (nestD (k + 1), n + (k + 1))
  | 0, m, hk, hm => by
    obtain ⟨m, rfl⟩ : ∃ q, m = q + 1 := ⟨m - 1, by omega⟩
    have e1 : nx S (n - (0 + 1)) = 91 := h1 _ (by omega)
    have e2 : nx S n = 93 := h2 _ (by omega) (by omega)
    rw [val_list e1]
    unfold sevF
    rw [show n - (0 + 1) + 1 = n by omega, blk_stay (by rw [e2]; rfl), e2, if_pos rfl]
    rfl
  | k + 1, m, hk, hm => by
    obtain ⟨m, rfl⟩ : ∃ q, m = q + 1 := ⟨m - 1, by omega⟩
    have ih := val_nest h1 h2 hs k m (by omega) (by omega)
    have e1 : nx S (n - (k + 1 + 1)) = 91 := h1 _ (by omega)
    have e2 : nx S (n - (k + 1)) = 91 := h1 _ (by omega)
    have e3 : nx S (n + (k + 1)) = 93 := h2 _ (by omega) (by omega)
    rw [val_list e1]
    unfold sevF
    rw [show n - (k + 1 + 1) + 1 = n - (k + 1) by omega, blk_stay (by rw [e2]; rfl), e2, if_neg (by decide), sevR_eq (val_ig S m) _ (by omega), blk_stay (by rw [e2]; rfl)]
    unfold itemS
    rw [ih]
    simp only
    rw [blk_stay (by rw [e3]; rfl), e3, if_pos rfl]
    rfl
theorem val_open {S : ByteArray} {n : Nat} (h1 : ∀ k, k < n → nx S k = 91) (hs : S.size = n) :
    ∀ (k m : Nat), k ≤ n → valF S m (n - k) = .error (19, ((n : Nat) : Int)) ∨ m < k + 1
  | 0, m, hk => by
    have e1 : nx S n = 0 := nx_past (by omega)
    cases m with
    | zero => exact .inr (by omega)
    | succ m =>
      refine .inl ?_
      rw [show n - 0 = n by omega, valF, e1]
      rw [if_neg (by decide), if_neg (by decide), if_neg (by decide), if_neg (by decide), if_neg (by decide), if_neg (by decide), if_neg (by decide)]
  | k + 1, m, hk => by
    rcases Nat.lt_or_ge m (k + 1 + 1) with h | h
    · exact .inr h
    obtain ⟨m, rfl⟩ : ∃ q, m = q + 1 := ⟨m - 1, by omega⟩
    have ih := val_open h1 hs k m (by omega)
    rcases ih with ih | ih
    · refine .inl ?_
      have e1 : nx S (n - (k + 1)) = 91 := h1 _ (by omega)
      have e2 : nx S (n - k) ≠ 93 ∧ blkB (nx S (n - k)) = false := by
        rcases Nat.eq_zero_or_pos k with rfl | h0
        · rw [show n - 0 = n by omega, nx_past (S := S) (i := n) (by omega)]; exact ⟨by decide, rfl⟩
        · rw [h1 _ (by omega)]; exact ⟨by decide, rfl⟩
      rw [val_list e1]
      unfold sevF
      rw [show n - (k + 1) + 1 = n - k by omega, blk_stay e2.2, if_neg e2.1, sevR_eq (val_ig S m) _ (by omega), blk_stay e2.2]
      unfold itemS
      rw [ih]
    · exact .inr (by omega)
theorem clean_nest : ∀ (r m k : Nat) (lv : Int), lv = 17 - r → r ≤ 16 → k + 1 ≤ m → checkF r (cleanF m lv (nestD (k + 1))) = if k + 1 ≤ r then 0 else 9
  | 0, m, k, lv, _, _, _ => by rw [if_neg (by omega)]; rfl
  | r + 1, m, k, lv, hl, hr, hk => by
    obtain ⟨m, rfl⟩ : ∃ q, m = q + 1 := ⟨m - 1, by omega⟩
    cases k with
    | zero =>
      rw [if_pos (by omega)]
      have e : cleanF (m + 1) lv (nestD (0 + 1)) = mkD 5 0 ⟨#[]⟩ [] [] := by
        rw [cleanF, if_neg (by omega)]; rfl
      rw [e]
      have e2 : ownD (mkD 5 0 ⟨#[]⟩ [] []) = 0 := by kernel_rfl
      unfold checkF
      rw [if_pos e2]; rfl
    | succ k =>
      have ih := clean_nest r m k (lv + 1) (by omega) (by omega) (by omega)
      have e : cleanF (m + 1) lv (nestD (k + 1 + 1)) = mkD 5 0 ⟨#[]⟩ [cleanF m (lv + 1) (nestD (k + 1))] [] := by
        rw [cleanF, if_neg (by omega)]; rfl
      rw [e]
      generalize cleanF m (lv + 1) (nestD (k + 1)) = y at ih
      have e2 : ownD (mkD 5 0 ⟨#[]⟩ [y] []) = 0 := by kernel_rfl
      have e3 : kids (mkD 5 0 ⟨#[]⟩ [y] []) = [y] := rfl
      unfold checkF
      rw [if_pos e2, e3]
      show (if checkF r y = 0 then firstE (checkF r) [] else checkF r y) = _
      rw [ih]
      by_cases h : k + 1 ≤ r
      · rw [if_pos h, if_pos rfl, if_pos (by omega)]; rfl
      · rw [if_neg h, if_neg (by decide), if_neg (by omega)]
theorem kD_clean {m : Nat} (lv : Int) (d : Dt) (h : 0 < m) : kD (cleanF m lv d) = kD d := by
  cases m with
  | zero => omega
  | succ m => rw [cleanF]; split <;> rfl
/-- The two answers of the law of depth. -/
theorem depth_shut {S : ByteArray} {n : Nat} (h0 : 1 ≤ n) (hn : n ≤ 3000) (h1 : ∀ k, k < n → nx S k = 91) (h2 : ∀ k, n ≤ k → k < 2 * n → nx S k = 93) (hs : S.size = 2 * n) :
    (parseF S).2 = (if 16 < n then (9, 0) else (0, 0)) ∧ kD (parseF S).1 = if 16 < n then 0 else 5 := by
  obtain ⟨n, rfl⟩ : ∃ q, n = q + 1 := ⟨n - 1, by omega⟩
  have hv := val_nest h1 h2 hs n (S.size + 1) (by omega) (by omega)
  rw [show n + 1 - (n + 1) = 0 by omega] at hv
  have b0 : blk S 0 = 0 := blk_stay (by rw [h1 0 (by omega)]; rfl)
  have b1 : blk S (n + 1 + (n + 1)) = n + 1 + (n + 1) := blk_stay (by rw [nx_past (by omega)]; rfl)
  have hc := clean_nest 16 (S.size + 1) n 1 rfl (by omega) (by omega)
  have hc : checkD (cleanF (S.size + 1) 1 (nestD (n + 1))) = if n + 1 ≤ 16 then 0 else 9 := hc
  unfold parseF
  rw [if_neg (by omega), b0, hv]
  simp only
  rw [b1, if_neg (by omega), hc]
  by_cases h : n + 1 ≤ 16
  · rw [if_pos h, if_pos rfl, if_neg (by omega), if_neg (by omega)]
    refine ⟨rfl, ?_⟩
    show kD (cleanF _ _ _) = 5
    rw [kD_clean _ _ (by omega)]
    cases n <;> rfl
  · rw [if_neg h, if_neg (by decide), if_pos (by omega), if_pos (by omega)]
    exact ⟨rfl, rfl⟩
theorem depth_open {S : ByteArray} {n : Nat} (h0 : 1 ≤ n) (hn : n ≤ 3000) (h1 : ∀ k, k < n → nx S k = 91) (hs : S.size = n) : (parseF S).2 = (19, ((n : Nat) : Int)) := by
  have hv := (val_open h1 hs n (S.size + 1) (by omega)).resolve_right (by omega)
  rw [show n - n = 0 by omega] at hv
  have b0 : blk S 0 = 0 := blk_stay (by rw [h1 0 (by omega)]; rfl)
  unfold parseF
  rw [if_neg (by omega), b0, hv]
/-- Brackets that were laid so far. -/
def dL (n i : Nat) : List UInt8 := (List.range (2 * n)).map fun k => if k < i then 91 else if n ≤ k ∧ k < n + i then 93 else 0
theorem dL_len (n i : Nat) : (dL n i).length = 2 * n := by unfold dL; simp
theorem dL_zero (n : Nat) : dL n 0 = List.replicate (2 * n) 0 := by
  unfold dL
  apply List.ext_getElem (by simp)
  intro i h1 h2
  simp
theorem dL_q {n i k : Nat} (h : k < 2 * n) : (dL n i)[k]? = some (if k < i then 91 else if n ≤ k ∧ k < n + i then 93 else 0) := by
  unfold dL
  rw [List.getElem?_map, List.getElem?_range h]; rfl
theorem dL_step {n i : Nat} (h : i < n) : ((dL n i).set i 91).set (n + i) 93 = dL n (i + 1) := by
  apply List.ext_getElem?
  intro k
  rw [List.getElem?_set, List.getElem?_set, List.length_set, dL_len]
  by_cases hk : k < 2 * n
  · rw [dL_q hk, dL_q hk]
    by_cases e1 : n + i = k
    · rw [if_pos e1, if_pos (by omega), if_neg (by omega), if_pos (by omega)]
    · rw [if_neg e1]
      by_cases e2 : i = k
      · rw [if_pos e2, if_pos (by omega), if_pos (by omega)]
      · rw [if_neg e2]
        by_cases e3 : k < i
        · rw [if_pos e3, if_pos (by omega)]
        · rw [if_neg e3, if_neg (show ¬ k < i + 1 by omega)]
          by_cases e4 : n ≤ k ∧ k < n + i
          · rw [if_pos e4, if_pos (by omega)]
          · rw [if_neg e4, if_neg (by omega)]
  · rw [if_neg (by omega), if_neg (by omega), List.getElem?_eq_none (by rw [dL_len]; omega), List.getElem?_eq_none (by rw [dL_len]; omega)]
theorem dL_get {n k : Nat} (h : k < 2 * n) : (dL n n)[k]? = some (if k < n then 91 else 93) := by
  rw [dL_q h]
  by_cases e : k < n
  · rw [if_pos e, if_pos e]
  · rw [if_neg e, if_neg e, if_pos (by omega)]
theorem dL_nx {n : Nat} : (∀ k, k < n → nx ⟨(dL n n).toArray⟩ k = 91) ∧ (∀ k, n ≤ k → k < 2 * n → nx ⟨(dL n n).toArray⟩ k = 93) ∧ (∀ k, k < n → nx ⟨((dL n n).take n).toArray⟩ k = 91) := by
  refine ⟨fun k hk => ?_, fun k h1 h2 => ?_, fun k hk => ?_⟩
  · rw [nx_list, dL_get (by omega), if_pos hk]; rfl
  · rw [nx_list, dL_get (by omega), if_neg (by omega)]; rfl
  · rw [nx_list, List.getElem?_take, if_pos hk, dL_get (by omega), if_pos hk]; rfl
theorem str_as {S : ByteArray} {n : Nat} (hn : 2 ≤ n) (h1 : ∀ k, 0 < k → k < n - 1 → nx S k = 97) (h2 : nx S (n - 1) = 34) (hs : S.size = n) :
    ∀ (q i : Nat) (o : ByteArray), i + q = n - 1 → 0 < i → ∃ T, strR S i o = .ok (T, n) ∧ T.size = o.size + q
  | 0, i, o, hi, h0 => by
    obtain rfl : i = n - 1 := by omega
    refine ⟨o, ?_, by omega⟩
    rw [strR_eq (by omega), h2, if_pos rfl, show n - 1 + 1 = n by omega]
  | q + 1, i, o, hi, h0 => by
    obtain ⟨T, e1, e2⟩ := str_as hn h1 h2 hs q (i + 1) (o.push (UInt8.ofNat 97)) (by omega) (by omega)
    refine ⟨T, ?_, ?_⟩
    · rw [strR_eq (by omega), h1 i h0 (by omega), if_neg (by decide), if_neg (by decide), if_neg (by omega)]
      exact e1
    · rw [e2, ByteArray.size_push]; omega
theorem sizes_ok {S : ByteArray} {n : Nat} (hn : 2 ≤ n) (h0 : nx S 0 = 34) (h1 : ∀ k, 0 < k → k < n - 1 → nx S k = 97) (h2 : nx S (n - 1) = 34) (hs : S.size = n) :
    if 65536 < n then (parseF S).2 = (2, 0) ∧ kD (parseF S).1 = 0 else (parseF S).2 = (0, 0) ∧ (sD (parseF S).1).size = n - 2 := by
  by_cases hb : 65536 < n
  · rw [if_pos hb]
    unfold parseF
    rw [if_pos (by omega)]
    exact ⟨rfl, rfl⟩
  · rw [if_neg hb]
    obtain ⟨T, e1, e2⟩ := str_as hn h1 h2 hs (n - 2) 1 ByteArray.empty (by omega) (by omega)
    have b0 : blk S 0 = 0 := blk_stay (by rw [h0]; rfl)
    have b1 : blk S n = n := blk_stay (by rw [nx_past (by omega)]; rfl)
    have hv : valF S (S.size + 1) 0 = .ok (leafD 4 0 T, n) := by
      rw [valF, h0]
      rw [if_neg (by decide), if_neg (by decide), if_neg (by decide), if_pos rfl]
      have e3 : strF S 0 = .ok (T, n) := by
        unfold strF
        have : wordF S [34] 0 = .ok 1 := by
          unfold wordF
          rw [h0, if_pos (by decide)]; rfl
        rw [this]
        exact e1
      rw [e3]
    have hc : cleanF (S.size + 1) 1 (leafD 4 0 T) = leafD 4 0 T := by rw [cleanF, if_neg (by omega)]; rfl
    have hz : checkD (leafD 4 0 T) = 0 := by kernel_rfl
    unfold parseF
    rw [if_neg (by omega), b0, hv]
    simp only
    rw [b1, if_neg (by omega), hc, if_pos hz]
    refine ⟨rfl, ?_⟩
    show T.size = _
    rw [e2]
    have : ByteArray.empty.size = 0 := rfl
    omega
/-- So many letters. -/
def aL (n i : Nat) : List UInt8 := (List.range n).map fun k => if k < i then 97 else 0
theorem aL_len (n i : Nat) : (aL n i).length = n := by unfold aL; simp
theorem aL_q {n i k : Nat} (h : k < n) : (aL n i)[k]? = some (if k < i then 97 else 0) := by
  unfold aL
  rw [List.getElem?_map, List.getElem?_range h]; rfl
theorem aL_zero (n : Nat) : aL n 0 = List.replicate n 0 := by
  apply List.ext_getElem?
  intro k
  by_cases hk : k < n
  · rw [aL_q hk, if_neg (by omega), List.getElem?_replicate, if_pos hk]
  · rw [List.getElem?_eq_none (by rw [aL_len]; omega), List.getElem?_eq_none (by simp; omega)]
theorem aL_step {n i : Nat} (h : i < n) : (aL n i).set i 97 = aL n (i + 1) := by
  apply List.ext_getElem?
  intro k
  rw [List.getElem?_set, aL_len]
  by_cases hk : k < n
  · rw [aL_q hk, aL_q hk]
    by_cases e : i = k
    · rw [if_pos e, if_pos h, if_pos (by omega)]
    · rw [if_neg e]
      by_cases e2 : k < i
      · rw [if_pos e2, if_pos (by omega)]
      · rw [if_neg e2, if_neg (by omega)]
  · rw [if_neg (by omega), List.getElem?_eq_none (by rw [aL_len]; omega), List.getElem?_eq_none (by rw [aL_len]; omega)]
def qL (n : Nat) : List UInt8 := ((aL n n).set 0 34).set (n - 1) 34
theorem qL_len (n : Nat) : (qL n).length = n := by unfold qL; rw [List.length_set, List.length_set, aL_len]
theorem qL_nx {n : Nat} (hn : 2 ≤ n) : nx ⟨(qL n).toArray⟩ 0 = 34 ∧ (∀ k, 0 < k → k < n - 1 → nx ⟨(qL n).toArray⟩ k = 97) ∧ nx ⟨(qL n).toArray⟩ (n - 1) = 34 := by
  have hq : ∀ k, k < n → (qL n)[k]? = some (if k = n - 1 ∨ k = 0 then 34 else 97) := fun k hk => by
    unfold qL
    rw [List.getElem?_set, List.getElem?_set, List.length_set, aL_len, aL_q hk, if_pos hk]
    by_cases e : n - 1 = k
    · rw [if_pos e, if_pos (by omega), if_pos (by omega)]
    · rw [if_neg e]
      by_cases e2 : 0 = k
      · rw [if_pos e2, if_pos (by omega), if_pos (by omega)]
      · rw [if_neg e2, if_neg (by omega)]
  refine ⟨?_, fun k h1 h2 => ?_, ?_⟩
  · rw [nx_list, hq 0 (by omega), if_pos (by omega)]; rfl
  · rw [nx_list, hq k (by omega), if_neg (by omega)]; rfl
  · rw [nx_list, hq (n - 1) (by omega), if_pos (by omega)]; rfl
end Go.Proofs.YtmmbbndoimleaaaGreatDoor
