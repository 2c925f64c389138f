/- append of whatever slice onto an own row; slices.Index, slices.Clone, slices.Reverse, reversed. -/
import Derived.Test.YtbfgnafpianliaaLr
import Derived.Lib.LazyBuf
namespace Go.Proofs.Ytbfgnafpianliaa
open Go.RowKit

section
variable {P : Program} (w : World)
theorem wp_append_all {o : Oper} {a : Act} {K : Act → World → Prop} {Q : Exit → Act → World → Prop} (s x : Operand) (t : TypeId)
    (ho : o.op = .call { callee := .builtin .append, args := #[s, x], argTypes := #[t, t] })
    (base : Nat) (e : TypeId) (i : TypeInfo) (z : Value) (size bytes : Nat) (ht : P.underlying t = some (.slice e)) (hi : P.info? e = some i) (hz : i.zero = some z)
    (hsize : i.size = size) (hby : i.bytes = bytes) (hzs : z.cells.size = size) (hsz : 0 < size)
    (v : Value) (n : Nat) (xs : List Value) (hs : a.eval s = v) (hown : w.ownsRow base e size v n xs)
    (S : Option Addr) (m c : Nat) (news : List Value) (hx : a.eval x = .slice S m c) (hS : S = none → m = 0 ∧ c = 0) (hl : news.length = m * size) (hnews : ∀ ad, S = some ad → ∀ j u, news[j]? = some u → w.cell? (ad.add j) = some u) (h1 : ∀ u ∈ news, u.oneCell' = true)
    (h63 : n + m ≤ maxLen) (hbytes : (n + m) * bytes ≤ 140737488355328) (hbase : base ≤ w.heap.size)
    (h : ∀ v' w', Hid (w'.ownsRow base e size v' (n + m) (xs ++ news)) → Hid (w.grownBy w' v.ownBlock) → K (a.put o.dst v') w') : o.wp P a w K Q := by
  cases S with
  | none =>
    obtain ⟨rfl, rfl⟩ := hS rfl
    have hnl : news = [] := List.eq_nil_of_length_eq_zero (by simpa using hl)
    subst hnl
    have hr := run_append_owned_none (P := P) (w := w) base t o.type e i size ht hi v n xs hown
    unfold Oper.wp execOp
    simp only [ho, resolve, invoke, builtin, Sem.run_bind, Sem.run_pure, Result.andThen_ok, List.map_toArray, List.map_cons, List.map_nil, hs, hx, hr]
    exact h v w (hide (by simpa using hown)) (hide ⟨rfl, rfl, rfl, Nat.le_refl _, fun _ _ _ => rfl⟩)
  | some ad =>
    obtain ⟨v', w', hr, h2, h3, _⟩ := run_append_own_at (P := P) w base t o.type e i z size bytes ht hi hz hsize hby hzs hsz v n xs hown ad m c news hl (hnews ad rfl) h1 h63 hbytes hbase
    unfold Oper.wp execOp
    simp only [ho, resolve, invoke, builtin, Sem.run_bind, Sem.run_pure, Result.andThen_ok, List.map_toArray, List.map_cons, List.map_nil, hs, hx, hr]
    exact h v' w' (hide h2) (hide h3)

theorem wpList_append_all {ops : Array Oper} {rest : List Oper} {o : Oper} {a : Act} {Q : Exit → Act → World → Prop} (hgd : o.guard = none) (s x : Operand) (t : TypeId)
    (ho : o.op = .call { callee := .builtin .append, args := #[s, x], argTypes := #[t, t] })
    (base : Nat) (e : TypeId) (i : TypeInfo) (z : Value) (size bytes : Nat) (ht : P.underlying t = some (.slice e)) (hi : P.info? e = some i) (hz : i.zero = some z)
    (hsize : i.size = size) (hby : i.bytes = bytes) (hzs : z.cells.size = size) (hsz : 0 < size)
    (v : Value) (n : Nat) (xs : List Value) (hs : a.eval s = v) (hown : w.ownsRow base e size v n xs)
    (S : Option Addr) (m c : Nat) (news : List Value) (hx : a.eval x = .slice S m c) (hS : S = none → m = 0 ∧ c = 0) (hl : news.length = m * size) (hnews : ∀ ad, S = some ad → ∀ j u, news[j]? = some u → w.cell? (ad.add j) = some u) (h1 : ∀ u ∈ news, u.oneCell' = true)
    (h63 : n + m ≤ maxLen) (hbytes : (n + m) * bytes ≤ 140737488355328) (hbase : base ≤ w.heap.size)
    (h : ∀ v' w', Hid (w'.ownsRow base e size v' (n + m) (xs ++ news)) → Hid (w.grownBy w' v.ownBlock) → wpList P ops Q rest (a.put o.dst v') w') : wpList P ops Q (o :: rest) a w :=
  wpList_plain hgd fun _ hK => wp_append_all w s x t ho base e i z size bytes ht hi hz hsize hby hzs hsz v n xs hs hown S m c news hx hS hl hnews h1 h63 hbytes hbase fun v' w' h2 h3 => hK _ _ (h v' w' h2 h3)

theorem step_append_all {ops : Array Oper} {o : Oper} {a : Act} {K : Act → World → Prop} {Q : Exit → Act → World → Prop} {E : Prop} (hgd : o.guard = none) (s x : Operand) (t : TypeId)
    (ho : o.op = .call { callee := .builtin .append, args := #[s, x], argTypes := #[t, t] })
    (base : Nat) (e : TypeId) (i : TypeInfo) (z : Value) (size bytes : Nat) (ht : P.underlying t = some (.slice e)) (hi : P.info? e = some i) (hz : i.zero = some z)
    (hsize : i.size = size) (hby : i.bytes = bytes) (hzs : z.cells.size = size) (hsz : 0 < size)
    (v : Value) (n : Nat) (xs : List Value) (hs : a.eval s = v) (hown : w.ownsRow base e size v n xs)
    (S : Option Addr) (m c : Nat) (news : List Value) (hx : a.eval x = .slice S m c) (hS : S = none → m = 0 ∧ c = 0) (hl : news.length = m * size) (hnews : ∀ ad, S = some ad → ∀ j u, news[j]? = some u → w.cell? (ad.add j) = some u) (h1 : ∀ u ∈ news, u.oneCell' = true)
    (h63 : n + m ≤ maxLen) (hbytes : (n + m) * bytes ≤ 140737488355328) (hbase : base ≤ w.heap.size)
    (h : ∀ v' w', Hid (w'.ownsRow base e size v' (n + m) (xs ++ news)) → Hid (w.grownBy w' v.ownBlock) → K (a.put o.dst v') w') :
    if Region.wanted o (yielded ops a.tmps) = true then Oper.wp P o a w K Q else E := by
  have hw : Region.wanted o (yielded ops a.tmps) = true := by simp [Region.wanted, hgd]
  rw [if_pos hw]
  exact wp_append_all w s x t ho base e i z size bytes ht hi hz hsize hby hzs hsz v n xs hs hown S m c news hx hS hl hnews h1 h63 hbytes hbase h
end

/-- The place of the first x, k added; or -1. -/
def indexF (x : ByteArray) : List ByteArray → Int → Int
  | [], _ => -1
  | y :: l, k => if x = y then k else indexF x l (k + 1)

theorem Index_run (v : Value) (xs : List ByteArray) (x : ByteArray) (w : World) (B : Nat) (h : Strs w B v xs) :
    Calls Try.prog 31 #[v, .string x] w fun e w' => e = .returned (.int .i64 (indexF x xs 0)) ∧ w = w' := by
  obtain ⟨A, c, rfl, hc1, hc2, hels⟩ := h.parts
  have hm := maxLen_le hc2
  have HE := Lib.hid hels; clear hels hc2 h
  obtain ⟨n, hn⟩ : ∃ n, n = xs.length := ⟨_, rfl⟩
  rw [← hn] at hc1 ⊢
  have HN := Lib.hid hn
  obtain ⟨r, hr⟩ : ∃ r, r = indexF x xs 0 := ⟨_, rfl⟩
  rw [← hr]
  have HR := Lib.hid hr
  clear hn hr
  go_enter Try.func31, Try.ntmps31
  go_wp2
  go_loop [5, 8] (fun _ i => ∃ k : Nat, i = .int .i64 k ∧ k ≤ n ∧ Hid (r = indexF x (xs.drop k) k)) (fun _ i => n - (intOf i).toNat)
  case atStart => exact ⟨0, rfl, by omega, HR⟩
  case round =>
    obtain ⟨k, rfl, hk2, hI⟩ := hrel
    by_cases hlt : k < n
    · have hn := HN.out
      have hlt' : k < xs.length := by omega
      obtain ⟨ad, rfl, hb, hcell⟩ := HE.out k _ (List.getElem?_eq_getElem hlt')
      have hq := hI.out
      rw [drop_at hlt', indexF] at hq
      clear hI
      by_cases hg : x = xs[k]
      · have g1 : (x.toList == xs[k].toList) = true := bytes_eq hg
        rw [if_pos hg] at hq
        have HQ := Lib.hid hq; clear hq hn hg
        go_wp2
        go_ret
        exact ⟨ret_int HQ.out.symm, rfl⟩
      · have g1 : (x.toList == xs[k].toList) = false := bytes_ne hg
        rw [if_neg hg] at hq
        have HQ := Lib.hid hq; clear hq hn hg
        go_wp2
        go_round
        case rel => exact ⟨k + 1, by go_num, by omega, HQ.out⟩
        case measure => simp [intOf]; omega
    · have hq := hI.out
      rw [List.drop_eq_nil_of_le (by have := HN.out; omega), indexF] at hq
      have HQ := Lib.hid hq; clear hq hI
      go_wp2
      go_ret
      exact ⟨ret_int HQ.out.symm, rfl⟩

theorem Clone_run (v : Value) (xs : List ByteArray) (w : World) (h : Strs w w.heap.size v xs) (hn : xs.length ≤ 1000000000) :
    Calls Try.prog 34 #[v] w fun e w' => ∃ u, e = .returned u ∧ Below w.heap.size w w' ∧ w'.ownsRow w.heap.size 9 1 u xs.length (xs.map .string) := by
  obtain ⟨A, c, rfl, hc1, hc2, hels⟩ := h.parts
  have hm := maxLen_le hc2
  have HE := Lib.hid hels; clear hels hc2 h
  obtain ⟨i0, hi0, hz0, hz1, hz2⟩ := info_parts info9
  cases A with
  | none =>
    have hx : xs = [] := by
      cases xs with
      | nil => rfl
      | cons y l => obtain ⟨ad, ha, _⟩ := HE.out 0 y rfl; cases ha
    subst hx
    have hnil := run_eql_slice_nil (P := Try.prog) w 36 9 none 0 c Try.underlying36
    go_enter Try.func34, Try.ntmps34
    go_wp2
    go_ret
    exact ⟨_, rfl, Below.refl _ _, World.ownsRow_nil _ _ _ _⟩
  | some ad =>
    have hnil := run_eql_slice_nil (P := Try.prog) w 36 9 (some ad) xs.length c Try.underlying36
    have HC : Hid (∀ j u, (xs.map Value.string)[j]? = some u → (w.alloc (.cells #[] 9)).cell? (ad.add j) = some u) := hide fun j u hu => by
      rw [List.getElem?_map] at hu
      obtain ⟨y, hy, rfl⟩ := Option.map_eq_some_iff.1 hu
      obtain ⟨ad', ha, hb, hc⟩ := HE.out j y hy
      injection ha with ha
      subst ha
      rw [World.cell?_alloc_lt _ _ _ (by rw [block_of_add]; exact hb)]
      exact hc
    go_enter Try.func34, Try.ntmps34
    go_wp2_with (at_builtin; refine wpList_append_all _ rfl (.tmp 5) (.tmp 6) _ rfl w.heap.size 9 i0 _ 1 16 Try.underlying36 hi0 hz0 hz1 hz2 rfl (by omega) _ 0 _ rfl (World.ownsRow_made w #[] 0 (Nat.le_refl _) (by simp [maxLen]) rfl) (some ad) xs.length c (xs.map .string) rfl (by intro h; cases h) (by simp) (by intro ad' h; injection h with h; subst h; exact HC.out) (by intro u hu; simp at hu; obtain ⟨y, _, rfl⟩ := hu; rfl) (by unfold maxLen; omega) (by omega) (by simp) ?_)
    intro v' w' h1 h2
    go_wp2_with fail
    go_ret
    have hk : v' = v' ∧ w'.ownsRow w.heap.size 9 1 v' xs.length (xs.map .string) := ⟨rfl, by simpa using h1.out⟩
    exact ⟨_, rfl, Below.grown (below_al (Below.refl _ _) _) h2.out (by simp) (fun k e => by simp [Value.ownBlock] at e; omega), hk.2⟩

/-- The list with the first t and the last t members of it exchanged. -/
def swp (xs : List ByteArray) (t : Nat) : List ByteArray := (List.range xs.length).map fun q => if q < t ∨ xs.length ≤ q + t then xs.getD (xs.length - 1 - q) ByteArray.empty else xs.getD q ByteArray.empty
theorem swp_length (xs : List ByteArray) (t : Nat) : (swp xs t).length = xs.length := by simp [swp]
theorem swp_get (xs : List ByteArray) (t q : Nat) (hq : q < xs.length) : (swp xs t)[q]? = some (if q < t ∨ xs.length ≤ q + t then xs.getD (xs.length - 1 - q) ByteArray.empty else xs.getD q ByteArray.empty) := by
  rw [swp, List.getElem?_map, List.getElem?_range hq]; rfl
theorem swp_zero (xs : List ByteArray) : swp xs 0 = xs := by
  apply List.ext_getElem?; intro q
  by_cases hq : q < xs.length
  · rw [swp_get xs 0 q hq, if_neg (by omega)]; simp [hq]
  · rw [List.getElem?_eq_none (by rw [swp_length]; omega), List.getElem?_eq_none (by omega)]
theorem swp_all (xs : List ByteArray) (t : Nat) (h : xs.length ≤ 2 * t + 1) : swp xs t = xs.reverse := by
  apply List.ext_getElem?; intro q
  by_cases hq : q < xs.length
  · rw [swp_get xs t q hq, List.getElem?_reverse hq]
    by_cases hc : q < t ∨ xs.length ≤ q + t
    · rw [if_pos hc]; simp [show xs.length - 1 - q < xs.length by omega]
    · rw [if_neg hc, show xs.length - 1 - q = q by omega]; simp [hq]
  · rw [List.getElem?_eq_none (by rw [swp_length]; omega), List.getElem?_eq_none (by rw [List.length_reverse]; omega)]
theorem swp_step (xs : List ByteArray) (t : Nat) (h : 2 * t + 1 < xs.length) :
    ((swp xs t).set t (xs.getD (xs.length - 1 - t) ByteArray.empty)).set (xs.length - 1 - t) (xs.getD t ByteArray.empty) = swp xs (t + 1) := by
  apply List.ext_getElem?; intro q
  by_cases hq : q < xs.length
  · rw [swp_get xs (t + 1) q hq, List.getElem?_set, List.getElem?_set, swp_get xs t q hq]
    simp only [List.length_set, swp_length]
    by_cases h1 : xs.length - 1 - t = q
    · rw [if_pos h1, if_pos (by omega), if_pos (by omega)]
      congr 1
      subst h1
      congr 1
      omega
    · rw [if_neg h1]
      by_cases h2 : t = q
      · subst h2
        rw [if_pos rfl, if_pos (by omega), if_pos (by omega)]
      · rw [if_neg h2]
        congr 1
        by_cases hc : q < t ∨ xs.length ≤ q + t
        · rw [if_pos hc, if_pos (by omega)]
        · rw [if_neg hc, if_neg (by omega)]
  · rw [List.getElem?_eq_none (by simp [swp_length]; omega), List.getElem?_eq_none (by rw [swp_length]; omega)]
end Go.Proofs.Ytbfgnafpianliaa
