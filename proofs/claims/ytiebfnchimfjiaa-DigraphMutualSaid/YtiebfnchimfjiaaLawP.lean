/- Plain facts for the laws that stand without the reference. -/
import Derived.Test.YtiebfnchimfjiaaCycP
namespace Go.Proofs.Ytiebfnchimfjiaa
namespace G
variable {g : List (List Int)}
theorem IsC.iff {a b : Nat} {c d : Int} (ha : a < g.length) (hb : b < g.length) (h : IsC g a c) (h' : IsC g b d) : c = d ↔ Mut g a b := by
  obtain ⟨u, rfl, hu, h2, h3⟩ := h
  constructor
  · rintro rfl
    obtain ⟨v, e, _, k2, _⟩ := h'
    obtain rfl : u = v := by omega
    exact Mut.trans hu h2.symm k2
  · intro hm
    refine IsC.eq ⟨u, rfl, hu, Mut.trans ha h2 hm, fun u' hu' hm' => h3 u' hu' (Mut.trans hb hm' hm.symm)⟩ h'

/-- An order so far: each node once, behind all its predecessors. -/
structure Good (g : List (List Int)) (out : List Nat) : Prop where
  nodup : out.Nodup
  lt : ∀ b ∈ out, b < g.length
  pre : ∀ l1 b l2, out = l1 ++ b :: l2 → ∀ a, a < g.length → ed g a b = true → a ∈ l1
theorem Good.start (g : List (List Int)) : Good g [] := ⟨by simp, fun _ h => by simp at h, fun l1 b l2 h => by simp at h⟩
theorem Good.step {out : List Nat} {v : Nat} (h : Good g out) (hv : nxt g out = some v) : Good g (out ++ [v]) := by
  have hok : okP g out v = true := List.find?_some hv
  have hvl : v < g.length := List.mem_range.1 (List.mem_of_find?_eq_some hv)
  unfold okP at hok
  rw [Bool.and_eq_true] at hok
  have hvo : v ∉ out := by simpa using hok.1
  refine ⟨?_, fun b hb => ?_, fun l1 b l2 he a ha hed => ?_⟩
  · rw [List.nodup_append]
    refine ⟨h.nodup, by simp, fun a ha b hb => ?_⟩
    simp at hb; subst hb; intro e; subst e; exact hvo ha
  · rcases List.mem_append.1 hb with hb | hb
    · exact h.lt b hb
    · simp at hb; omega
  · rcases List.eq_nil_or_concat l2 with rfl | ⟨l2', x, rfl⟩
    · have := List.append_inj' he rfl
      obtain ⟨e1, e2⟩ := this
      injection e2 with e2
      subst e1; subst e2
      exact freeP_iff.1 hok.2 a ha hed
    · have he' : out ++ [v] = (l1 ++ b :: l2') ++ [x] := by rw [he]; simp
      have := (List.append_inj' he' rfl).1
      exact h.pre l1 b l2' this a ha hed
theorem Good.of_topoF : ∀ {k : Nat} {out r : List Nat}, Good g out → topoF g k out = some r → Good g r ∧ r.length = out.length + k := by
  intro k
  induction k with
  | zero => intro out r h e; simp only [topoF] at e; injection e with e; subst e; exact ⟨h, rfl⟩
  | succ k ih =>
    intro out r h e
    simp only [topoF] at e
    cases hn : nxt g out with
    | none => rw [hn] at e; cases e
    | some v =>
      rw [hn] at e
      have := ih (h.step hn) e
      exact ⟨this.1, by rw [this.2]; simp; omega⟩
theorem topo_good {r : List Nat} (h : topo g = some r) : Good g r ∧ r.length = g.length := by
  have := Good.of_topoF (Good.start g) h
  exact ⟨this.1, by simpa using this.2⟩
theorem nodup_inj {r : List Nat} (hn : r.Nodup) {i j : Nat} (hi : i < r.length) (hj : j < r.length) (e : r[i] = r[j]) : i = j := by
  have h := List.pairwise_iff_getElem.1 hn
  rcases Nat.lt_trichotomy i j with h1 | h1 | h1
  · exact absurd e (h i j hi hj h1)
  · exact h1
  · exact absurd e.symm (h j i hj hi h1)
theorem all_in {r : List Nat} {n : Nat} (hn : r.Nodup) (hl : r.length = n) (hlt : ∀ b ∈ r, b < n) {b : Nat} (hb : b < n) : b ∈ r := by
  refine Classical.byContradiction fun hnot => ?_
  have := pigeon n (n + 1) (fun i => if h : i < r.length then r[i] else b) (fun i hi => by
    split
    · exact hlt _ (List.getElem_mem _)
    · exact hb) (fun i j hi hj e => by
    split at e <;> split at e
    · exact nodup_inj hn _ _ e
    · exact absurd (e ▸ List.getElem_mem _) hnot
    · exact absurd (e.symm ▸ List.getElem_mem _) hnot
    · omega)
  omega
/-- Where a node stands. -/
theorem before_of {r : List Nat} (h : Good g r) {a b i j : Nat} (hi : r[i]? = some a) (hj : r[j]? = some b) (ha : a < g.length) (he : ed g a b = true) : i < j := by
  have hjl := (List.getElem?_eq_some_iff.1 hj).1
  have hjb := (List.getElem?_eq_some_iff.1 hj).2
  have hil := (List.getElem?_eq_some_iff.1 hi).1
  have hia := (List.getElem?_eq_some_iff.1 hi).2
  have hs : r = r.take j ++ b :: r.drop (j + 1) := by
    rw [← hjb, List.getElem_cons_drop, List.take_append_drop]
  have hm := h.pre _ _ _ hs a ha he
  obtain ⟨k, hk, hk'⟩ := List.getElem_of_mem hm
  simp only [List.length_take] at hk
  rw [List.getElem_take] at hk'
  have : i = k := nodup_inj h.nodup hil (by omega) (by rw [hia, hk'])
  omega
theorem pos_lt {r : List Nat} (h : Good g r) (hl : r.length = g.length) : ∀ {k a b i j : Nat}, k ≤ g.length → a < g.length → b < g.length → Pk g k a b → r[i]? = some a → r[j]? = some b → i < j := by
  intro k
  induction k with
  | zero => intro a b i j _ ha hb hp hi hj; exact before_of h hi hj ha hp
  | succ k ih =>
    intro a b i j hk ha hb hp hi hj
    rcases hp with hp | ⟨h1, h2⟩
    · exact ih (by omega) ha hb hp hi hj
    · have hkm := all_in h.nodup hl h.lt (b := k) (by omega)
      obtain ⟨m, hm, hm'⟩ := List.getElem_of_mem hkm
      have hmk : r[m]? = some k := by rw [List.getElem?_eq_getElem hm, hm']
      have := ih (by omega) ha (by omega) h1 hi hmk
      have := ih (by omega) (by omega) hb h2 hmk hj
      omega
theorem topo_no_cycle {r : List Nat} (h : topo g = some r) {v : Nat} (hv : v < g.length) : ¬ Pk g g.length v v := by
  intro hp
  obtain ⟨hg, hl⟩ := topo_good h
  obtain ⟨m, hm, hm'⟩ := List.getElem_of_mem (all_in hg.nodup hl hg.lt hv)
  have hmk : r[m]? = some v := by rw [List.getElem?_eq_getElem hm, hm']
  have := pos_lt hg hl (Nat.le_refl _) hv hv hp hmk hmk
  omega
/-- If it is stuck there is a cycle. -/
theorem stuck_cycle {out : List Nat} (_hlt : ∀ b ∈ out, b < g.length) (hl : out.length < g.length) (_hn : out.Nodup) (h : nxt g out = none) : ∃ v, v < g.length ∧ Pk g g.length v v := by
  have hpred : ∀ b, b < g.length → b ∉ out → ∃ a, a < g.length ∧ a ∉ out ∧ ed g a b = true := by
    intro b hb hbo
    have hok : okP g out b = false := by
      unfold nxt at h
      rw [List.find?_eq_none] at h
      have := h b (List.mem_range.2 hb)
      simpa using this
    refine Classical.byContradiction fun hno => ?_
    have : okP g out b = true := by
      unfold okP
      rw [Bool.and_eq_true]
      refine ⟨by simpa using hbo, freeP_iff.2 fun a ha he => ?_⟩
      refine Classical.byContradiction fun hao => hno ⟨a, ha, hao, he⟩
    rw [this] at hok; cases hok
  obtain ⟨v0, hv0, hv0o⟩ : ∃ v, v < g.length ∧ v ∉ out := by
    refine Classical.byContradiction fun hno => ?_
    have hall : ∀ v, v < g.length → v ∈ out := fun v hv => Classical.byContradiction fun h => hno ⟨v, hv, h⟩
    have := pigeon out.length g.length (fun i => out.idxOf i) (fun i hi => List.idxOf_lt_length_of_mem (hall i hi)) (fun i j hi hj e => by
      have h1 := List.getElem_idxOf (List.idxOf_lt_length_of_mem (hall i hi))
      have h2 := List.getElem_idxOf (List.idxOf_lt_length_of_mem (hall j hj))
      have e' : out.idxOf i = out.idxOf j := e
      rw [← h1, ← h2]; simp only [e'])
    omega
  obtain ⟨π, hπ⟩ : ∃ π : Nat → Nat, ∀ b, b < g.length → b ∉ out → π b < g.length ∧ π b ∉ out ∧ ed g (π b) b = true := by
    refine ⟨fun b => if h : b < g.length ∧ b ∉ out then Classical.choose (hpred b h.1 h.2) else 0, fun b hb hbo => ?_⟩
    simp only [dif_pos (And.intro hb hbo)]
    exact Classical.choose_spec (hpred b hb hbo)
  let f : Nat → Nat := fun i => Nat.rec v0 (fun _ x => π x) i
  have hf : ∀ i, f i < g.length ∧ f i ∉ out := by
    intro i
    induction i with
    | zero => exact ⟨hv0, hv0o⟩
    | succ i ih => have := hπ _ ih.1 ih.2; exact ⟨this.1, this.2.1⟩
  have hstep : ∀ i, ed g (f (i + 1)) (f i) = true := fun i => (hπ _ (hf i).1 (hf i).2).2.2
  have hwalk : ∀ i d, Pk g g.length (f (i + d + 1)) (f i) := by
    intro i d
    induction d with
    | zero => exact Pk_mono (k := 0) (hstep i) (Nat.zero_le _)
    | succ d ih => exact Pk_trans (hf (i + d + 1)).1 (Pk_mono (k := 0) (hstep (i + d + 1)) (Nat.zero_le _)) ih
  refine Classical.byContradiction fun hno => ?_
  have := pigeon g.length (g.length + 1) f (fun i _ => (hf i).1) (fun i j _ _ e => by
    rcases Nat.lt_trichotomy i j with hlt | he | hlt
    · exfalso
      have hw := hwalk i (j - i - 1)
      rw [show i + (j - i - 1) + 1 = j by omega, ← e] at hw
      exact hno ⟨f i, (hf i).1, hw⟩
    · exact he
    · exfalso
      have hw := hwalk j (i - j - 1)
      rw [show j + (i - j - 1) + 1 = i by omega, e] at hw
      exact hno ⟨f j, (hf j).1, hw⟩)
  omega
theorem topoF_none : ∀ {k : Nat} {out : List Nat}, Good g out → out.length + k ≤ g.length → topoF g k out = none → ∃ v, v < g.length ∧ Pk g g.length v v := by
  intro k
  induction k with
  | zero => intro out _ _ h; simp [topoF] at h
  | succ k ih =>
    intro out hg hl h
    simp only [topoF] at h
    cases hn : nxt g out with
    | none => exact stuck_cycle hg.lt (by omega) hg.nodup hn
    | some v =>
      rw [hn] at h
      exact ih (hg.step hn) (by simp; omega) h
theorem topo_none_cycle (h : topo g = none) : ∃ v, v < g.length ∧ Pk g g.length v v := topoF_none (Good.start g) (by simp) h
theorem topo_iff_cycle {c : List Int} (hc : IsCyc g c) : (topo g).isSome = decide (c = []) := by
  rcases hc with ⟨rfl, h2⟩ | ⟨v, m, r, h1, h2, _, _, _, rfl⟩
  · cases h : topo g with
    | some r => rfl
    | none => obtain ⟨v, hv, hp⟩ := topo_none_cycle h; exact absurd hp (h2 v hv)
  · cases h : topo g with
    | some r' => exact absurd h2 (topo_no_cycle h h1)
    | none => simp [ints]

/-! The reversed graph. -/
theorem rev3 : rev (rev (rev g)) = rev g := by
  have h1 : (rev (rev (rev g))).length = g.length := by rw [rev_len, rev_len, rev_len]
  apply List.ext_getElem?
  intro b
  by_cases hb : b < g.length
  · have e1 : (rev (rev (rev g)))[b]? = some (preds (rev (rev g)) b g.length) := by
      rw [rev, List.getElem?_map, rev_len, rev_len, List.getElem?_range hb]; rfl
    have e2 : (rev g)[b]? = some (preds g b g.length) := by
      rw [rev, List.getElem?_map, List.getElem?_range hb]; rfl
    rw [e1, e2]
    congr 1
    unfold preds
    congr 1
    refine List.filter_congr fun a ha => ?_
    have ha' := List.mem_range.1 ha
    rw [ed_rev (g := rev g) (by rw [rev_len]; exact ha') (by rw [rev_len]; exact hb), ed_rev hb ha']
  · rw [List.getElem?_eq_none (by omega), List.getElem?_eq_none (by rw [rev_len]; omega)]
theorem wl_rev : ∀ {k a b : Nat}, a < g.length → b < g.length → wl (rev g) b k a = true → wl g a k b = true := by
  intro k
  induction k with
  | zero => intro a b _ _ h; simp [wl] at h ⊢; exact h.symm
  | succ k ih =>
    intro a b ha hb h
    obtain ⟨x, hx, h1, h2⟩ := wl_succ.1 h
    rw [rev_len] at hx
    rw [ed_rev hx ha] at h2
    have h3 : wl g a 1 x = true := wl_succ.2 ⟨a, ha, by simp [wl], h2⟩
    have h4 := wl_cat h3 (ih hx hb h1)
    rwa [Nat.add_comm] at h4
theorem wl_rr : ∀ {k a b : Nat}, a < g.length → wl (rev (rev g)) a k b = true → b < g.length → wl g a k b = true := by
  intro k
  induction k with
  | zero => intro a b _ h _; exact h
  | succ k ih =>
    intro a b ha h hb
    obtain ⟨x, hx, h1, h2⟩ := wl_succ.1 h
    rw [rev_len, rev_len] at hx
    rw [ed_rev (g := rev g) (by rw [rev_len]; exact hx) (by rw [rev_len]; exact hb), ed_rev hb hx] at h2
    exact wl_succ.2 ⟨x, hx, ih ha h1 hx, h2⟩
theorem wl_rr' : ∀ {k a b : Nat}, a < g.length → wl g a k b = true → b < g.length → wl (rev (rev g)) a k b = true := by
  intro k
  induction k with
  | zero => intro a b _ h _; exact h
  | succ k ih =>
    intro a b ha h hb
    obtain ⟨x, hx, h1, h2⟩ := wl_succ.1 h
    refine wl_succ.2 ⟨x, by rw [rev_len, rev_len]; exact hx, ih ha h1 hx, ?_⟩
    rw [ed_rev (g := rev g) (by rw [rev_len]; exact hx) (by rw [rev_len]; exact hb), ed_rev hb hx]; exact h2
theorem wl_rev_iff {k a b : Nat} (ha : a < g.length) (hb : b < g.length) : wl (rev g) b k a = wl g a k b := by
  rw [Bool.eq_iff_iff]
  refine ⟨wl_rev ha hb, fun h => ?_⟩
  exact wl_rev (g := rev g) (by rw [rev_len]; exact hb) (by rw [rev_len]; exact ha) (wl_rr' ha h hb)
theorem IsD_rev {a b : Nat} {d : Int} (ha : a < g.length) (hb : b < g.length) (h : IsD g a b d) : IsD (rev g) b a d := by
  rcases h with ⟨h1, h2⟩ | ⟨k, h1, h2, h3⟩
  · exact .inl ⟨h1, fun k => by rw [wl_rev_iff ha hb]; exact h2 k⟩
  · exact .inr ⟨k, h1, by rw [wl_rev_iff ha hb]; exact h2, fun j hj => by rw [wl_rev_iff ha hb]; exact h3 j hj⟩
end G
end Go.Proofs.Ytiebfnchimfjiaa
