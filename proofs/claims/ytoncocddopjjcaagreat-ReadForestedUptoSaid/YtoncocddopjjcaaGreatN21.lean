/- What is proved: small laws for the walks of this seat, and contracts of its functions. No condition but those each theorem names. -/
import Derived.Test.YtoncocddopjjcaaGreatN20
import Derived.Test.YtoncocddopjjcaaGreatN12
import Derived.Test.YtoncocddopjjcaaGreatN14
import Derived.Test.YtoncocddopjjcaaGreatN8
set_option maxRecDepth 100000
set_option linter.unusedVariables false
set_option linter.unusedSimpArgs false
namespace Go.Abs.Wall.Lst
open Go Go.Abs Go.Proofs Go.Abs.Wall
/-! ### the places that are reached -/
inductive RP (g : List (List Edg)) (want : Nat → Nat → Bool) : Nat → Prop
  | zero : RP g want 0
  | step {i k : Nat} {es : List Edg} {x : Edg} : RP g want i → g[i]? = some es → es[k]? = some x → want i k = true → RP g want x.to.toNat
theorem getD_set {l : List Bool} {a j : Nat} : (l.set a true).getD j false = true ↔ l.getD j false = true ∨ (a = j ∧ j < l.length) := by
  rw [List.getD_eq_getElem?_getD, List.getD_eq_getElem?_getD, List.getElem?_set]
  by_cases h : a = j
  · subst h
    by_cases h2 : a < l.length
    · simp [h2]
    · simp [h2]
  · simp [h]
theorem markK_iff {want : Nat → Nat → Bool} {a j : Nat} : ∀ {es : List Edg} {k : Nat} {l : List Bool}, (∀ x ∈ es, a < x.to.toNat) →
    ((markK want a es k l).getD j false = true ↔ l.getD j false = true ∨ (l.getD a false = true ∧ j < l.length ∧ ∃ m x, es[m]? = some x ∧ want a (k + m) = true ∧ x.to.toNat = j))
  | [], k, l, _ => by
    unfold markK
    constructor
    · exact .inl
    · rintro (h | ⟨_, _, m, x, h, _⟩)
      · exact h
      · simp at h
  | x :: t, k, l, hx => by
    have hxa := hx x (by simp)
    unfold markK
    rw [markK_iff fun y hy => hx y (by simp [hy])]
    have ha : ∀ {b : Bool}, (if b = true then l.set x.to.toNat true else l).getD a false = l.getD a false := by
      intro b
      split
      · rw [List.getD_eq_getElem?_getD, List.getD_eq_getElem?_getD, List.getElem?_set_ne (by omega)]
      · rfl
    have hlen : ∀ {b : Bool}, (if b = true then l.set x.to.toNat true else l).length = l.length := by
      intro b
      split
      · rw [List.length_set]
      · rfl
    rw [ha, hlen]
    constructor
    · rintro (h | ⟨h1, h2, m, y, h3, h4, h5⟩)
      · split at h
        · rename_i hb
          rw [Bool.and_eq_true] at hb
          rw [getD_set] at h
          rcases h with h | ⟨h, h2⟩
          · exact .inl h
          · exact .inr ⟨hb.1, h2, 0, x, rfl, hb.2, h⟩
        · exact .inl h
      · exact .inr ⟨h1, h2, m + 1, y, by simpa using h3, by rwa [show k + (m + 1) = k + 1 + m by omega], h5⟩
    · rintro (h | ⟨h1, h2, m, y, h3, h4, h5⟩)
      · left
        split
        · rw [getD_set]; exact .inl h
        · exact h
      · cases m with
        | zero =>
          left
          simp at h3
          subst h3
          rw [if_pos (by rw [h1]; simpa using h4), getD_set]
          exact .inr ⟨h5, h2⟩
        | succ m => exact .inr ⟨h1, h2, m, y, by simpa using h3, by rwa [show k + 1 + m = k + (m + 1) by omega], h5⟩
/-- reached from a row before the i-th -/
def RI (g : List (List Edg)) (want : Nat → Nat → Bool) (i j : Nat) : Prop := j = 0 ∨ ∃ a k es x, a < i ∧ RP g want a ∧ g[a]? = some es ∧ es[k]? = some x ∧ want a k = true ∧ x.to.toNat = j
theorem RI.rp {g : List (List Edg)} {want : Nat → Nat → Bool} {i j : Nat} (h : RI g want i j) : RP g want j := by
  rcases h with rfl | ⟨a, k, es, x, _, h1, h2, h3, h4, rfl⟩
  · exact .zero
  · exact .step h1 h2 h3 h4
theorem RP.ri {g : List (List Edg)} (hg : GOK g) {want : Nat → Nat → Bool} {i j : Nat} (hj : j ≤ i) (h : RP g want j) : RI g want i j := by
  cases h with
  | zero => exact .inl rfl
  | @step a k es x h1 h2 h3 h4 =>
    have := (hg.edge a es h2 x (List.mem_of_getElem? h3)).lo
    exact .inr ⟨a, k, es, x, by omega, h1, h2, h3, h4, rfl⟩
theorem reachGo_iff {g : List (List Edg)} (hg : GOK g) {want : Nat → Nat → Bool} : ∀ (d i : Nat) (l : List Bool), i + d = g.length → l.length = g.length + 1 → (∀ j, j ≤ g.length → (l.getD j false = true ↔ RI g want i j)) →
    ∀ j, j ≤ g.length → ((reachGo want (g.drop i) i l).getD j false = true ↔ RP g want j)
  | 0, i, l, hi, hl, h, j, hj => by
    rw [List.drop_of_length_le (by omega)]
    unfold reachGo
    rw [h j hj]
    exact ⟨RI.rp, RP.ri hg (by omega)⟩
  | d + 1, i, l, hi, hl, h, j, hj => by
    obtain ⟨es, hes⟩ := get_lt (l := g) (i := i) (by omega)
    rw [drop_cons hes]
    unfold reachGo
    refine reachGo_iff hg d (i + 1) _ (by omega) (by rw [markK_len]; exact hl) (fun j hj => ?_) j hj
    rw [markK_iff fun x hx => by have := (hg.edge i es hes x hx).lo; omega]
    rw [h j hj, h i (by omega)]
    constructor
    · rintro (h1 | ⟨h1, h2, m, x, h3, h4, h5⟩)
      · rcases h1 with h1 | ⟨a, k, es', x, ha, h1⟩
        · exact .inl h1
        · exact .inr ⟨a, k, es', x, by omega, h1⟩
      · exact .inr ⟨i, m, es, x, by omega, h1.rp, hes, h3, by rwa [Nat.zero_add] at h4, h5⟩
    · rintro (h1 | ⟨a, k, es', x, ha, h1, h2, h3, h4, h5⟩)
      · exact .inl (.inl h1)
      · by_cases hai : a = i
        · subst hai
          rw [hes] at h2
          cases h2
          exact .inr ⟨RP.ri hg (Nat.le_refl _) h1, by omega, k, x, h3, by rwa [Nat.zero_add], h5⟩
        · exact .inl (.inr ⟨a, k, es', x, by omega, h1, h2, h3, h4, h5⟩)
theorem reachM_iff {g : List (List Edg)} (hg : GOK g) (want : Nat → Nat → Bool) {j : Nat} (hj : j ≤ g.length) : (reachM g want).getD j false = true ↔ RP g want j := by
  unfold reachM
  have := reachGo_iff hg (want := want) g.length 0 ((List.replicate (g.length + 1) false).set 0 true) (by omega) (by simp) (fun j hj => ?_) j hj
  · simpa using this
  · rw [getD_set, List.getD_eq_getElem?_getD, List.getElem?_replicate]
    constructor
    · rintro (h | ⟨h, _⟩)
      · split at h <;> simp at h
      · exact .inl h.symm
    · rintro (h | ⟨a, _, _, _, h, _⟩)
      · exact .inr ⟨h.symm, by simp; omega⟩
      · omega
end Go.Abs.Wall.Lst
set_option maxRecDepth 100000
set_option linter.unusedVariables false
set_option linter.unusedSimpArgs false
namespace Go.Abs.Wall.Lst
open Go Go.Abs Go.Proofs Go.Abs.Wall
/-! ### what is certain -/
structure GP (g : List (List Edg)) : Prop where
  ok : GOK g
  rows : Rows g
  frm : ∀ (i : Nat) es, g[i]? = some es → ∀ x ∈ es, x.frm = (i : Int)
theorem graph_gp {H : Hou} {line : List Int} (h : growErr H line = 0) : GP (graphM H line) := by
  obtain ⟨-, -, hg⟩ := growOK h
  have hl := grow_line h
  refine ⟨hg, graph_rows (lineOK hl), fun i es hes x hx => ?_⟩
  have hlt := (List.getElem?_eq_some_iff.1 hes).1
  rw [graphM_len] at hlt
  rw [graphM_get hlt] at hes
  cases hes
  have := ((edgsAt_iff (lineOK hl) (line_lex hl) (by omega)).1 hx).2
  rw [this]; rfl
theorem GP.same {g : List (List Edg)} (h : GP g) {i j k m : Nat} {es es' : List Edg} {x : Edg} (h1 : g[i]? = some es) (h2 : g[j]? = some es') (h3 : es[k]? = some x) (h4 : es'[m]? = some x) : i = j ∧ k = m := by
  have a := h.frm i es h1 x (List.mem_of_getElem? h3)
  have b := h.frm j es' h2 x (List.mem_of_getElem? h4)
  have hij : i = j := by omega
  subst hij
  rw [h1] at h2
  cases h2
  refine ⟨rfl, ?_⟩
  rcases Nat.lt_trichotomy k m with hk | hk | hk
  · exact absurd (h.rows i es h1 k m x x hk h3 h4) (zW.c.irr _)
  · exact hk
  · exact absurd (h.rows i es h1 m k x x hk h4 h3) (zW.c.irr _)
theorem path_rp {g : List (List Edg)} {want : Nat → Nat → Bool} : ∀ {l : List Edg} {a : Nat}, RP g want a → PathG g a l → (∀ (b : Nat) es (m : Nat) y, g[b]? = some es → es[m]? = some y → y ∈ l → want b m = true) → RP g want g.length
  | [], a, h, hp, _ => by
    have hp : a = g.length := hp
    rw [← hp]; exact h
  | x :: l, a, h, ⟨es, hes, hx, hp⟩, hw => by
    obtain ⟨m, hm⟩ := List.mem_iff_getElem?.1 hx
    exact path_rp (.step h hes hm (hw a es m x hes hm (by simp))) hp fun b es m y h1 h2 h3 => hw b es m y h1 h2 (by simp [h3])
theorem rp_path {g : List (List Edg)} {want : Nat → Nat → Bool} {j : Nat} (h : RP g want j) : ∀ l, PathG g j l → ∃ l0, PathG g 0 (l0 ++ l) ∧ ∀ y ∈ l0, ∃ (b : Nat) (es : List Edg) (m : Nat), g[b]? = some es ∧ es[m]? = some y ∧ want b m = true := by
  induction h with
  | zero => intro l hl; exact ⟨[], hl, fun y hy => by cases hy⟩
  | @step i k es x h1 h2 h3 h4 ih =>
    intro l hl
    obtain ⟨l0, h5, h6⟩ := ih (x :: l) ⟨es, h2, List.mem_of_getElem? h3, hl⟩
    refine ⟨l0 ++ [x], by rw [List.append_assoc]; exact h5, fun y hy => ?_⟩
    rcases List.mem_append.1 hy with hy | hy
    · exact h6 y hy
    · rw [List.mem_singleton] at hy
      subst hy
      exact ⟨i, es, k, h2, h3, h4⟩
theorem certE_mem {g : List (List Edg)} {i : Nat} {x : Edg} : ∀ {es : List Edg} {k : Nat}, x ∈ certE g i es k ↔ ∃ m, es[m]? = some x ∧ (reachM g (wantE i (k + m : Nat))).getD g.length false = false
  | [], k => by simp [certE]
  | y :: t, k => by
    unfold certE
    rw [List.mem_append, certE_mem]
    constructor
    · rintro (h | ⟨m, h1, h2⟩)
      · split at h
        · cases h
        · rename_i h1
          rw [List.mem_singleton] at h
          subst h
          exact ⟨0, rfl, by simpa using h1⟩
      · refine ⟨m + 1, by simpa using h1, ?_⟩
        rw [show ((k + (m + 1) : Nat) : Int) = ((k + 1 + m : Nat) : Int) by omega]
        exact h2
    · rintro ⟨m, h1, h2⟩
      cases m with
      | zero =>
        left
        simp at h1
        subst h1
        rw [if_neg (by simpa using h2)]
        simp
      | succ m =>
        right
        refine ⟨m, by simpa using h1, ?_⟩
        rw [show ((k + 1 + m : Nat) : Int) = ((k + (m + 1) : Nat) : Int) by omega]
        exact h2
theorem certGo_mem {g : List (List Edg)} {x : Edg} : ∀ {t : List (List Edg)} {i : Nat}, x ∈ certGo g t i ↔ ∃ j es, t[j]? = some es ∧ x ∈ certE g (i + j) es 0
  | [], i => by simp [certGo]
  | es :: t, i => by
    unfold certGo
    rw [List.mem_append, certGo_mem]
    constructor
    · rintro (h | ⟨j, es', h1, h2⟩)
      · exact ⟨0, es, rfl, h⟩
      · exact ⟨j + 1, es', by simpa using h1, by rwa [show i + (j + 1) = i + 1 + j by omega]⟩
    · rintro ⟨j, es', h1, h2⟩
      cases j with
      | zero => left; simp at h1; subst h1; exact h2
      | succ j => exact .inr ⟨j, es', by simpa using h1, by rwa [show i + 1 + j = i + (j + 1) by omega]⟩
theorem certG_mem {g : List (List Edg)} {x : Edg} : x ∈ certG g ↔ ∃ (i : Nat) (es : List Edg) (k : Nat), g[i]? = some es ∧ es[k]? = some x ∧ (reachM g (wantE i k)).getD g.length false = false := by
  unfold certG
  rw [certGo_mem]
  constructor
  · rintro ⟨i, es, h1, h2⟩
    rw [certE_mem] at h2
    obtain ⟨k, h2, h3⟩ := h2
    rw [Nat.zero_add, Nat.zero_add] at h3
    exact ⟨i, es, k, h1, h2, h3⟩
  · rintro ⟨i, es, k, h1, h2, h3⟩
    refine ⟨i, es, h1, ?_⟩
    rw [certE_mem]
    exact ⟨k, h2, by rw [Nat.zero_add, Nat.zero_add]; exact h3⟩
theorem cert_all {g : List (List Edg)} (hg : GP g) {x : Edg} (h : x ∈ certG g) {l : List Edg} (hl : PathG g 0 l) : x ∈ l := by
  obtain ⟨i, es, k, h1, h2, h3⟩ := certG_mem.1 h
  refine Classical.byContradiction fun hn => ?_
  have hr : RP g (wantE i k) g.length := path_rp .zero hl fun b es' m y hb hm hy => by
    unfold wantE
    rw [Bool.or_eq_true, Bool.not_eq_true', Bool.not_eq_true', decide_eq_false_iff_not, decide_eq_false_iff_not]
    by_cases hbi : b = i
    · right
      intro e
      have e : m = k := by omega
      subst hbi e
      rw [h1] at hb
      cases hb
      rw [h2] at hm
      cases hm
      exact hn hy
    · left; omega
  rw [← reachM_iff hg.ok _ (Nat.le_refl _), h3] at hr
  cases hr
theorem all_cert {g : List (List Edg)} (hg : GP g) {i k : Nat} {es : List Edg} {x : Edg} (h1 : g[i]? = some es) (h2 : es[k]? = some x) (h : ∀ l, PathG g 0 l → x ∈ l) : x ∈ certG g := by
  rw [certG_mem]
  refine ⟨i, es, k, h1, h2, ?_⟩
  cases hr : (reachM g (wantE i k)).getD g.length false with
  | false => rfl
  | true =>
    rw [reachM_iff hg.ok _ (Nat.le_refl _)] at hr
    obtain ⟨l0, h3, h4⟩ := rp_path hr [] rfl
    rw [List.append_nil] at h3
    obtain ⟨b, es', m, h5, h6, h7⟩ := h4 x (h l0 h3)
    obtain ⟨rfl, rfl⟩ := hg.same h1 h5 h2 h6
    unfold wantE at h7
    simp at h7
theorem path_frm {g : List (List Edg)} (hg : GP g) : ∀ {l : List Edg} {a : Nat}, PathG g a l → l.Pairwise (fun x y => x.frm < y.frm) ∧ ∀ x ∈ l, (a : Int) ≤ x.frm
  | [], a, _ => ⟨.nil, fun x hx => by cases hx⟩
  | x :: l, a, ⟨es, hes, hx, hp⟩ => by
    obtain ⟨h1, h2⟩ := path_frm hg hp
    have hf := hg.frm a es hes x hx
    have hlo := (hg.ok.edge a es hes x hx).lo
    refine ⟨List.pairwise_cons.2 ⟨fun y hy => ?_, h1⟩, fun y hy => ?_⟩
    · have := h2 y hy; omega
    · rcases List.mem_cons.1 hy with rfl | hy
      · omega
      · have := h2 y hy; omega
theorem certE_sub (g : List (List Edg)) (i : Nat) : ∀ (es : List Edg) (k : Nat), (certE g i es k).Sublist es
  | [], k => List.Sublist.refl _
  | x :: t, k => by
    unfold certE
    split
    · rw [List.nil_append]; exact List.Sublist.cons _ (certE_sub g i t _)
    · exact List.Sublist.cons_cons _ (certE_sub g i t _)
theorem row_nodup {g : List (List Edg)} (hg : GP g) {i : Nat} {es : List Edg} (h : g[i]? = some es) : es.Nodup := by
  unfold List.Nodup
  rw [List.pairwise_iff_getElem]
  intro a b ha hb hab e
  exact absurd (hg.rows i es h a b es[a] es[b] hab (List.getElem?_eq_getElem ha) (List.getElem?_eq_getElem hb)) (by rw [e]; exact zW.c.irr _)
theorem certGo_nodup {g : List (List Edg)} (hg : GP g) : ∀ (d i : Nat), i + d = g.length → (certGo g (g.drop i) i).Nodup ∧ ∀ x ∈ certGo g (g.drop i) i, (i : Int) ≤ x.frm
  | 0, i, hi => by
    rw [List.drop_of_length_le (by omega)]
    exact ⟨.nil, fun x hx => by cases hx⟩
  | d + 1, i, hi => by
    obtain ⟨es, hes⟩ := get_lt (l := g) (i := i) (by omega)
    obtain ⟨h1, h2⟩ := certGo_nodup hg d (i + 1) (by omega)
    rw [drop_cons hes]
    unfold certGo
    have hs := certE_sub g i es 0
    have hf : ∀ x ∈ certE g i es 0, x.frm = (i : Int) := fun x hx => hg.frm i es hes x (hs.subset hx)
    refine ⟨List.nodup_append.2 ⟨(row_nodup hg hes).sublist hs, h1, fun a ha b hb e => ?_⟩, fun x hx => ?_⟩
    · have := hf a ha
      have := h2 b hb
      subst e
      omega
    · rcases List.mem_append.1 hx with hx | hx
      · rw [hf x hx]; exact Int.le_refl _
      · have := h2 x hx; omega
theorem certG_nodup {g : List (List Edg)} (hg : GP g) : (certG g).Nodup := (certGo_nodup hg g.length 0 (by omega)).1
theorem cert_count {g : List (List Edg)} (hg : GP g) {l : List Edg} (hl : PathG g 0 l) : (l.filter fun x => decide (x ∈ certG g)).length = (certG g).length := by
  have hn : l.Nodup := by
    refine (path_frm hg hl).1.imp ?_
    rintro a b h rfl
    omega
  refine ((List.perm_ext_iff_of_nodup (hn.filter _) (certG_nodup hg)).2 fun x => ?_).length_eq
  rw [List.mem_filter, decide_eq_true_eq]
  exact ⟨fun h => h.2, fun h => ⟨cert_all hg h hl, h⟩⟩
/-! ### how many readings -/
theorem remGo_none {rs : Nat → Nat} : ∀ {ls : List (List Int)} {k : Nat}, bestGo rs ls k = none → remGo rs ls k = 0
  | [], k, _ => rfl
  | l :: ls, k, h => by
    have h2 := bestGo_none h
    unfold bestGo at h
    unfold remGo
    have h3 := h2 0 l rfl
    rw [Nat.add_zero, List.getElem?_eq_none_iff] at h3
    cases hl : l[rs k]? with
    | some c => rw [List.getElem?_eq_none (by omega)] at hl; cases hl
    | none =>
      rw [hl] at h
      have := remGo_none h
      omega
theorem gen_len {cls : List (List Int)} : ∀ (n : Nat) (rs : Nat → Nat), remGo rs cls 0 = n → (gen cls n rs).length = n
  | 0, rs, _ => rfl
  | n + 1, rs, h => by
    unfold gen
    cases hb : best cls rs with
    | none =>
      have := remGo_none hb
      omega
    | some x =>
      obtain ⟨⟨h1, l, h2, h3⟩, _⟩ := best_some hb
      have hl := (List.getElem?_eq_some_iff.1 h3).1
      have := remGo_up (rs := rs) (e := x.edge) (ls := cls) (k := 0) (l := l) (Nat.zero_le _) (by simpa using h2) (by omega)
      show (gen cls n (up rs x.edge)).length + 1 = n + 1
      rw [gen_len n _ (by omega)]
theorem remGo_sum : ∀ (ls : List (List Int)) (k : Nat), remGo zro ls k = (ls.map List.length).sum
  | [], k => rfl
  | l :: ls, k => by
    unfold remGo
    rw [remGo_sum ls, List.map_cons, List.sum_cons]
    unfold zro
    omega
theorem mgW_len (cls : List (List Int)) : (mgW cls).length = (cls.map List.length).sum := by
  unfold mgW
  rw [gen_len _ _ rfl, remGo_sum]
theorem foldC_sum {t : List Int} {v : Edg → Nat} : ∀ (es : List Edg) (r : Nat), (∀ (x : Edg) (r : Int), x ∈ es → cntR t r x = min (r + min (v x : Int) CMX) CMX) → es.foldl (cntR t) (min (r : Int) CMX) = min ((r + (es.map v).sum : Nat) : Int) CMX
  | [], r, _ => by simp
  | x :: es, r, h => by
    rw [List.foldl_cons, h x _ (by simp)]
    have e : min (min (r : Int) CMX + min (v x : Int) CMX) CMX = min ((r + v x : Nat) : Int) CMX := by unfold CMX; omega
    rw [e, foldC_sum es (r + v x) fun y r hy => h y r (by simp [hy])]
    rw [List.map_cons, List.sum_cons, Nat.add_assoc]
theorem cnt_len {g : List (List Edg)} (hg : GOK g) : ∀ (d i : Nat), i + d = g.length → cntV g i = min ((rdV g i).length : Int) CMX := by
  intro d
  induction d using Nat.strongRecOn with
  | _ d ih =>
    intro i hi
    by_cases h : i < g.length
    · obtain ⟨es, hes⟩ := get_lt h
      have hE := hg.edge i es hes
      rw [cntV_cons hes, rdV_cons hes hE, List.length_map, mgW_len]
      have := foldC_sum (t := cntT (g.drop (i + 1))) (v := fun x => (rdV g x.to.toNat).length) es 0 fun x r hx => by
        have ho := hE x hx
        have h5 := ho.lo; have h6 := ho.hi
        rw [cntR_eq ho r, ih (g.length - x.to.toNat) (by omega) _ (by omega)]
      rw [show min ((0 : Nat) : Int) CMX = 0 by unfold CMX; omega] at this
      rw [this]
      unfold clsG extC
      rw [List.map_map]
      have e : (es.map fun x => (rdV g x.to.toNat).length) = es.map (List.length ∘ fun x => (rdV g x.to.toNat).map fun p => x.cost + p.1) := List.map_congr_left fun x _ => by simp
      rw [e, Nat.zero_add]
    · have : i = g.length := by omega
      subst this
      rw [cntV_end, rdV_end]
      rfl
end Go.Abs.Wall.Lst
set_option maxRecDepth 100000
set_option linter.unusedVariables false
set_option linter.unusedSimpArgs false
namespace Go.Abs.Wall.Lst
open Go Go.Abs Go.Proofs Go.Abs.Wall
/-! ### what all readings have -/
def hasM : List Wrd → Int → Int → Wrd → Bool
  | [], _, _, _ => false
  | x :: t, n, a, w => (decide (n = a) && decide (x = w)) || hasM t (n + x.uses.length) a w
theorem hasM_edge {H : Hou} {w : Wrd} {a : Nat} : ∀ {ws : List Wrd} {i : Nat}, hasM ws (i : Int) (a : Int) w = true ↔ edgOf H a w ∈ edgesOf H i ws
  | [], i => by simp [hasM, edgesOf]
  | x :: t, i => by
    unfold hasM edgesOf
    rw [Bool.or_eq_true, Bool.and_eq_true, decide_eq_true_eq, decide_eq_true_eq, List.mem_cons]
    rw [show (i : Int) + x.uses.length = ((i + x.uses.length : Nat) : Int) by omega, hasM_edge (ws := t)]
    constructor
    · rintro (⟨h1, rfl⟩ | h)
      · left; rw [show a = i by omega]
      · exact .inr h
    · rintro (h | h)
      · left
        have h1 := congrArg Edg.frm h
        have h2 := congrArg Edg.word h
        exact ⟨by have h1 : (a : Int) = i := h1; omega, h2.symm⟩
      · exact .inr h
def atP (ws : List Wrd) (i : Nat) : Nat := ((ws.take i).map fun w => w.uses.length).sum
theorem atP_succ {ws : List Wrd} {i : Nat} {w : Wrd} (h : ws[i]? = some w) : atP ws (i + 1) = atP ws i + w.uses.length := by
  unfold atP
  rw [take_snoc h, List.map_append, List.sum_append]
  simp
theorem edgesOf_get {H : Hou} : ∀ {ws : List Wrd} {a i : Nat} {w : Wrd}, ws[i]? = some w → (edgesOf H a ws)[i]? = some (edgOf H (a + atP ws i) w)
  | [], a, i, w, h => by simp at h
  | x :: t, a, 0, w, h => by
    simp at h
    subst h
    rfl
  | x :: t, a, i + 1, w, h => by
    unfold edgesOf
    rw [List.getElem?_cons_succ, edgesOf_get (ws := t) (by simpa using h)]
    unfold atP
    rw [List.take_succ_cons, List.map_cons, List.sum_cons, Nat.add_assoc]
theorem edgesOf_len (H : Hou) : ∀ (ws : List Wrd) (a : Nat), (edgesOf H a ws).length = ws.length
  | [], _ => rfl
  | x :: t, a => by unfold edgesOf; rw [List.length_cons, edgesOf_len, List.length_cons]
def c42 : Cfg := ⟨[0, 1, 2, 3, 5, 6, 7, 8, 13, 27], [], [], [], [(5, [0, 1, 2, 3, 4, 5, 6, 7, 8, 9, 10, 11], [])], []⟩
def c8 : Cfg := ⟨[0, 1, 2, 3, 4, 5, 6, 7, 8, 9, 10, 11, 12, 13, 14, 15, 20, 43, 64, 71, 77, 99, 142, 143], [], [], [], [(19, [0, 1, 2, 3, 4, 5, 6, 7, 8, 9, 10, 11, 12, 13, 14, 15, 16], []), (24, [0, 1, 2, 3, 4, 5, 6, 7, 8, 9, 10, 11, 12, 13, 14, 15, 16, 17, 18, 19, 20, 21, 22, 23, 24, 25], [])], []⟩
theorem hasAtW (z : Rdg) (a : Int) (w : Wrd) (hr : RdgFit z) (hw : WrdFit w) : QCall Tryz.prog 42 [.agg (encRdg z), .int .i64 a, .agg (encWrd w)] [] (.bool (hasM z.words 0 a w)) := by
  have hlen := hr.1
  refine QCall.of' ?_
  refine fcalls (F := Tryz.f42) c42 rfl rfl rfl mixed rfl fun X => ?_
  conv => whnf
  skip
  refine sloop rfl mixed [1, 3, 5, 7, 8] [] (fun m r h => ∃ (i : Nat) (n : Int), r = [(1, [], .int .i64 a), (3, [], .iptr (encRdg z)), (5, [], .iptr (encWrd w)), (7, [], .int .i64 n), (8, [], .int .i64 i)] ∧ h = [] ∧ m = z.words.length - i ∧ i ≤ z.words.length ∧ 0 ≤ n ∧ n ≤ i * 1048576 ∧ hasM z.words 0 a w = hasM (z.words.drop i) n a w) ?_ ?_
  · conv => whnf
    exact ⟨_, 0, 0, rfl, rfl, rfl, by omega, by omega, by omega, rfl⟩
  · rintro m rr h ⟨i, n, rfl, rfl, rfl, hi, hn0, hn1, hg⟩
    conv => whnf
    skip
    refine ⟨fun hi2 => ?_, fun hi2 => ?_⟩ <;> simp at hi2
    · obtain ⟨x, hx⟩ := get_lt hi2
      have hxf := hr.2 x (List.mem_of_getElem? hx)
      have hxu := hxf.us
      rw [drop_cons hx, hasM] at hg
      conv => whnf
      repeat ((first | refine ix (by assumption) ?_ | refine gcall (sameWord x w hxf hw) ?_ | refine And.intro (by show drawOK (opsAt Tryz.f42 _) _ = true; decide +kernel) ?_); conv => whnf)
      refine ⟨fun hq => ?_, fun hq => ?_⟩
      · conv => whnf
        skip
        rw [hg, hq, Bool.true_or]
      · rw [hq, Bool.false_or] at hg
        have hlm : ((x.uses.map encUse).length : Int) = x.uses.length := by rw [List.length_map]
        conv => whnf
        repeat ((first | refine ⟨gP_of ⟨by omega, by omega⟩, ?_⟩ | refine ix (by assumption) ?_); conv => whnf)
        exact ⟨_, by omega, i + 1, _, rfl, rfl, rfl, by omega, by rw [hlm]; omega, by rw [hlm]; omega, by rw [hlm]; exact hg⟩
    · rw [drop_nil (by omega), hasM] at hg
      conv => whnf
      skip
      rw [hg]
end Go.Abs.Wall.Lst
set_option maxRecDepth 100000
set_option linter.unusedVariables false
set_option linter.unusedSimpArgs false
namespace Go.Abs.Wall.Lst
open Go Go.Abs Go.Proofs Go.Abs.Wall
theorem cert_list {H : Hou} {line : List Int} : certErr H line = listErr H line 64 := by
  unfold certErr listErr
  split
  · rfl
  · rename_i h0
    have h0 : growErr H line = 0 := by simpa using h0
    obtain ⟨-, -, hg⟩ := growOK h0
    rw [if_pos (show (1 : Int) ≤ 64 ∧ (64 : Int) ≤ 64 by decide)]
    have h := rest_first hg (graphM H line).length 0 (by omega)
    cases hr : rdV (graphM H line) 0 with
    | nil =>
      have h2 := wayAt_rd hg (i := 0) (by omega) 0
      rw [hr] at h2
      cases hw : (wayAt (graphM H line) 0)[0]? with
      | none =>
        rw [hw] at h
        have h : restV (graphM H line) 0 = -1 := h
        rw [if_pos h, if_pos rfl]
      | some w => rw [hw] at h2; cases h2
    | cons p l =>
      have hp : (rdV (graphM H line) 0)[0]? = some p := by rw [hr]; rfl
      have h3 := best_rest hg hp
      have h4 := rdV_bound hg (graphM H line).length 0 (by omega) p (List.mem_of_getElem? hp)
      rw [if_neg (by omega), if_neg (by simp)]
/-- the facts of a line that has readings -/
structure Sure (H : Hou) (line : List Int) (L : List Rdg) (S : List Edg) (n : Int) (z : Rdg) : Prop where
  first : L[0]? = some z
  few : L.length ≤ 64
  fit : ∀ r ∈ L, RdgFit r
  sfit : S.length ≤ 2000 ∧ ∀ x ∈ S, WrdFit x.word
  known : ∀ (i : Nat) w, z.words[i]? = some w → (∀ r ∈ L, hasM r.words 0 (atP z.words i) w = true) ∨ ¬ ∃ y ∈ S, y.frm = (atP z.words i : Nat) ∧ y.word = w
  all : n ≤ 64 → ∀ (i : Nat) w, z.words[i]? = some w → (∀ r ∈ L, hasM r.words 0 (atP z.words i) w = true) → ∃ y ∈ S, y.frm = (atP z.words i : Nat) ∧ y.word = w
  count : ∃ q : Nat → Wrd → Bool, (∀ (i : Nat) w, q i w = true ↔ ∃ y ∈ S, y.frm = (i : Int) ∧ y.word = w) ∧ ((edgesOf H 0 z.words).filter fun x => q x.frm.toNat x.word).length = S.length
theorem sure_of {H : Hou} {line : List Int} (h : listErr H line 64 = 0) : ∃ z, Sure H line (listL H line 64) (certL H line) (countL H line) z := by
  obtain ⟨h0, -, -, hne, hl⟩ := list_ok h
  have hG := graph_gp h0
  have hline := lineOK (grow_line h0)
  have hlex := line_lex (grow_line h0)
  have hc : certL H line = certG (graphM H line) := by unfold certL; rw [if_pos (by rw [cert_list]; exact h)]
  obtain ⟨g, hge⟩ : ∃ g, g = graphM H line := ⟨_, rfl⟩
  have hpath : ∀ r ∈ listL H line 64, PathG g 0 (edgesOf H 0 r.words) := by
    intro r hr
    obtain ⟨i, hi⟩ := List.mem_iff_getElem?.1 hr
    obtain ⟨-, p, hp, rfl, h2, -⟩ := mem_list h hi
    have := path_edgesOf hline hlex p.2 0 (Nat.zero_le _) h2
    rw [hge]
    show PathG _ 0 (edgesOf H 0 (p.2.map (·.word)))
    rw [← this]
    exact h2
  have hedg : ∀ (i : Nat) (w : Wrd), (∃ y ∈ certG g, y.frm = (i : Int) ∧ y.word = w) ↔ edgOf H i w ∈ certG g := by
    intro i w
    constructor
    · rintro ⟨y, hy, h1, rfl⟩
      obtain ⟨a, es, k, h2, h3, _⟩ := certG_mem.1 hy
      have hlt := (List.getElem?_eq_some_iff.1 h2).1
      have h4 := List.mem_of_getElem? h3
      have hf : y.frm = (a : Int) := by rw [hge] at h2; exact hG.frm a es h2 y h4
      rw [hge] at h2 hlt
      rw [graphM_len] at hlt
      rw [graphM_get hlt] at h2
      cases h2
      have h5 := ((edgsAt_iff hline hlex (by omega)).1 h4).2
      have : a = i := by omega
      subst this
      rw [← h5]
      exact hy
    · intro hy
      exact ⟨_, hy, rfl, rfl⟩
  cases hz : listL H line 64 with
  | nil =>
    rw [hl] at hz
    exact absurd ((rdsOf_nil (by decide)).1 hz) hne
  | cons z L =>
    refine ⟨z, rfl, by rw [← hz]; exact listL_len, fun r hr => listL_fit r (by rw [hz]; exact hr), certL_fit, fun i w hw => ?_, fun hn i w hw hall => ?_, ?_⟩
    · by_cases hk : ∃ y ∈ certL H line, y.frm = (atP z.words i : Nat) ∧ y.word = w
      · left
        rw [hc, ← hge, hedg] at hk
        intro r hr
        rw [← hz] at hr
        have := cert_all (hge ▸ hG) hk (hpath r hr)
        exact (hasM_edge (H := H)).2 this
      · exact .inr hk
    · rw [hc, ← hge, hedg]
      have hall2 : ∀ l, PathG g 0 l → edgOf H (atP z.words i) w ∈ l := by
        intro l hp
        have hlen : (rdV g 0).length ≤ 64 := by
          have := cnt_len (hge ▸ hG.ok : GOK g) g.length 0 (by omega)
          unfold countL at hn
          rw [if_pos h0, ← hge, this] at hn
          unfold CMX at hn
          omega
        have hm := (rdV_path (hge ▸ hG.ok : GOK g) g.length 0 (by omega) (sumC l, l)).2 ⟨hp, rfl⟩
        have hmem : pthR (sumC l, l) ∈ z :: L := by
          rw [← hz, hl, ← hge]
          unfold rdsOf
          rw [List.take_of_length_le (by simpa using hlen)]
          exact List.mem_map_of_mem hm
        have := (hasM_edge (H := H)).1 (hall _ hmem : hasM _ ((0 : Nat) : Int) _ w = true)
        have he : edgesOf H 0 (pthR (sumC l, l)).words = l := by
          rw [hge] at hp
          exact (path_edgesOf hline hlex l 0 (Nat.zero_le _) hp).symm
        rw [he] at this
        exact this
      have hpz := hpath z (by rw [hz]; simp)
      have hin := hall2 _ hpz
      have hsub : ∀ {l : List Edg} {a : Nat}, PathG g a l → ∀ x ∈ l, ∃ (b : Nat) (es : List Edg) (k : Nat), g[b]? = some es ∧ es[k]? = some x := by
        intro l
        induction l with
        | nil => intro a _ x hx; cases hx
        | cons y l ih =>
          rintro a ⟨es, hes, hy, hp⟩ x hx
          rcases List.mem_cons.1 hx with rfl | hx
          · obtain ⟨k, hk⟩ := List.mem_iff_getElem?.1 hy
            exact ⟨a, es, k, hes, hk⟩
          · exact ih hp x hx
      obtain ⟨b, es, k, h1, h2⟩ := hsub hpz _ hin
      exact all_cert (hge ▸ hG) h1 h2 hall2
    · refine ⟨fun i w => decide (edgOf H i w ∈ certG g), fun i w => by rw [decide_eq_true_eq, hc, ← hge, hedg], ?_⟩
      have hpz := hpath z (by rw [hz]; simp)
      rw [hc, ← hge, ← cert_count (hge ▸ hG : GP g) hpz]
      refine congrArg List.length (List.filter_congr fun x hx => ?_)
      have hx2 : ∀ {ws : List Wrd} {a : Nat}, x ∈ edgesOf H a ws → x = edgOf H x.frm.toNat x.word := by
        intro ws
        induction ws with
        | nil => intro a h; cases h
        | cons y t ih =>
          intro a h
          unfold edgesOf at h
          rcases List.mem_cons.1 h with rfl | h
          · show edgOf H a y = edgOf H ((a : Int)).toNat y
            rw [Int.toNat_natCast]
          · exact ih h
      show decide (edgOf H x.frm.toNat x.word ∈ certG g) = _
      rw [← hx2 hx]
end Go.Abs.Wall.Lst
set_option maxRecDepth 100000
set_option linter.unusedVariables false
set_option linter.unusedSimpArgs false
namespace Go.Abs.Wall.Lst
open Go Go.Abs Go.Proofs Go.Abs.Wall
theorem readSureL (H : Hou) (line : List Int) (hf : HouFit H) (hl : line.length ≤ 1048576) : QCall Tryz.prog 8 [.agg (encCas ⟨H, line⟩)] [] (.bool true) := by
  refine QCall.of' ?_
  refine fcalls (F := Tryz.f8) c8 rfl rfl rfl mixed rfl fun X => ?_
  conv => whnf
  repeat (refine QCall.k0 (largeW H line) ?_; conv => whnf)
  refine ⟨fun hq => ?_, fun hq => ?_⟩
  · conv => whnf
    repeat (refine QCall.k0 (worksW) ?_; conv => whnf)
  conv => whnf
  repeat ((first | refine QCall.k0 (CertainW H line hf hl) ?_ | refine QCall.k0 (listW H line 64 hf hl) ?_); conv => whnf)
  refine ⟨fun hz => ?_, fun hz => ?_⟩
  · conv => whnf
    repeat (refine gcall (worksW) ?_; conv => whnf)
    exact congrArg AV.bool (by rw [cert_list]; simp)
  have hz : listErr H line 64 = 0 := by simp at hz; exact hz.2
  have hce : certErr H line = 0 := by rw [cert_list]; exact hz
  have hge : growErr H line = 0 := (list_ok hz).1
  obtain ⟨z, hS⟩ := sure_of hz
  obtain ⟨q, hq1, hq2⟩ := hS.count
  obtain ⟨L, hL⟩ : ∃ L, L = listL H line 64 := ⟨_, rfl⟩
  obtain ⟨S, hSS⟩ : ∃ S, S = certL H line := ⟨_, rfl⟩
  obtain ⟨n, hn⟩ : ∃ n, n = countL H line := ⟨_, rfl⟩
  have hfit := hS.fit
  have hfirst := hS.first
  have hfew := hS.few
  have hsf := hS.sfit
  have hknown := hS.known
  have hall := hS.all
  rw [← hL] at hfit hfirst hfew hknown hall
  rw [← hSS] at hsf hknown hall hq1 hq2
  rw [← hn] at hall
  have hLpos : 0 < L.length := (List.getElem?_eq_some_iff.1 hfirst).1
  have hzf := hfit z (List.mem_of_getElem? hfirst)
  have hz60 := hzf.1
  rw [← hL, ← hSS]
  conv => whnf
  repeat (refine QCall.k0 (CountW H line hf hl) ?_; conv => whnf)
  rw [← hn]
  refine cF (by rw [hge]; simp; omega) ?_
  conv => whnf
  skip
  refine sloop rfl mixed [3, 5, 7, 9, 10, 11] [] (fun m r h => ∃ (i : Nat) (c : Nat), r = [(3, [], .sl 7 none (S.map encEdg)), (5, [], .sl 2 none (L.map encRdg)), (7, [], .int .i64 n), (9, [], .int .i64 c), (10, [], .int .i64 (atP z.words i)), (11, [], .int .i64 i)] ∧ h = [] ∧ m = z.words.length - i ∧ i ≤ z.words.length ∧ c ≤ i ∧ atP z.words i ≤ i * 1048576 ∧ c = (((edgesOf H 0 z.words).take i).filter fun x => q x.frm.toNat x.word).length) ?_ ?_
  · conv => whnf
    exact ⟨_, 0, 0, rfl, rfl, rfl, by omega, by omega, by simp [atP], rfl⟩
  · rintro m r h ⟨i, c, rfl, rfl, rfl, hi, hci, hat, hc⟩
    conv => whnf
    repeat (refine ix (by assumption) ?_; conv => whnf)
    refine ⟨fun hi2 => ?_, fun hi2 => ?_⟩ <;> simp at hi2
    · obtain ⟨w, hw⟩ := get_lt hi2
      have hwf := hzf.2 w (List.mem_of_getElem? hw)
      obtain ⟨a, ha⟩ : ∃ a, a = atP z.words i := ⟨_, rfl⟩
      rw [← ha] at hat
      rw [← ha]
      conv => whnf
      skip
      refine sloop rfl mixed [3, 5, 7, 9, 10, 11, 12, 13] [] (fun m r h => ∃ (k : Nat) (al : Bool), r = [(3, [], .sl 7 none (S.map encEdg)), (5, [], .sl 2 none (L.map encRdg)), (7, [], .int .i64 n), (9, [], .int .i64 c), (10, [], .int .i64 a), (11, [], .int .i64 i), (12, [], .bool al), (13, [], .int .i64 k)] ∧ h = [] ∧ m = L.length - k ∧ 1 ≤ k ∧ k ≤ L.length ∧ (al = true ↔ ∀ (j : Nat) s, 1 ≤ j → j < k → L[j]? = some s → hasM s.words 0 a w = true)) ?_ ?_
      · conv => whnf
        exact ⟨_, 1, true, rfl, rfl, rfl, by omega, by omega, ⟨fun _ j s h1 h2 => (by omega), fun _ => rfl⟩⟩
      · rintro m r h ⟨k, al, rfl, rfl, rfl, hk1, hk, hal⟩
        conv => whnf
        skip
        refine ⟨fun hk2 => ?_, fun hk2 => ?_⟩ <;> simp at hk2
        · obtain ⟨s, hs⟩ := get_lt hk2
          have hsf2 := hfit s (List.mem_of_getElem? hs)
          conv => whnf
          repeat ((first | refine ⟨gP_of ⟨by omega, by omega⟩, ?_⟩ | refine ix (by assumption) ?_ | refine gcall (hasAtW s a w hsf2 hwf) ?_ | refine And.intro (by show drawOK (opsAt Tryz.f8 _) _ = true; decide +kernel) ?_); conv => whnf)
          refine ⟨_, by omega, k + 1, _, rfl, rfl, rfl, by omega, by omega, ?_⟩
          rw [Bool.and_eq_true, hal]
          constructor
          · rintro ⟨h1, h2⟩ j t h3 h4 h5
            by_cases hjk : j = k
            · subst hjk
              rw [hs] at h5
              cases h5
              exact h2
            · exact h1 j t h3 (by omega) h5
          · intro h1
            exact ⟨fun j t h3 h4 h5 => h1 j t h3 (by omega) h5, h1 k s hk1 (by omega) hs⟩
        · conv => whnf
          skip
          refine sloop rfl mixed [3, 5, 7, 9, 10, 11, 12, 14, 15] [] (fun m r h => ∃ (j : Nat) (kn : Bool), r = [(3, [], .sl 7 none (S.map encEdg)), (5, [], .sl 2 none (L.map encRdg)), (7, [], .int .i64 n), (9, [], .int .i64 c), (10, [], .int .i64 a), (11, [], .int .i64 i), (12, [], .bool al), (14, [], .bool kn), (15, [], .int .i64 j)] ∧ h = [] ∧ m = S.length - j ∧ j ≤ S.length ∧ (kn = true ↔ ∃ (b : Nat) (y : Edg), b < j ∧ S[b]? = some y ∧ y.frm = (a : Int) ∧ y.word = w)) ?_ ?_
          · conv => whnf
            exact ⟨_, 0, false, rfl, rfl, rfl, by omega, ⟨fun h => (by cases h), fun ⟨b, y, h1, _⟩ => (by omega)⟩⟩
          · rintro m r h ⟨j, kn, rfl, rfl, rfl, hj, hkn⟩
            conv => whnf
            skip
            refine ⟨fun hj2 => ?_, fun hj2 => ?_⟩ <;> simp at hj2
            · obtain ⟨y, hy⟩ := get_lt hj2
              have hyf := hsf.2 y (List.mem_of_getElem? hy)
              conv => whnf
              repeat ((first | refine ⟨gP_of ⟨by omega, by omega⟩, ?_⟩ | refine ix (by assumption) ?_ | refine gcall (sameWord y.word w hyf hwf) ?_ | refine And.intro (by show drawOK (opsAt Tryz.f8 _) _ = true; decide +kernel) ?_); conv => whnf)
              refine ⟨_, by omega, j + 1, _, rfl, rfl, rfl, by omega, ?_⟩
              rw [Bool.or_eq_true, Bool.and_eq_true, decide_eq_true_eq, decide_eq_true_eq, hkn]
              constructor
              · rintro (⟨b, t, h1, h2⟩ | ⟨h1, h2⟩)
                · exact ⟨b, t, by omega, h2⟩
                · exact ⟨j, y, by omega, hy, h1, h2⟩
              · rintro ⟨b, t, h1, h2, h3, h4⟩
                by_cases hbj : b = j
                · subst hbj
                  rw [hy] at h2
                  cases h2
                  exact .inr ⟨h3, h4⟩
                · exact .inl ⟨b, t, by omega, h2, h3, h4⟩
            · have hE : (edgesOf H 0 z.words)[i]? = some (edgOf H a w) := by rw [edgesOf_get hw, Nat.zero_add, ha]
              have hown : hasM z.words 0 a w = true := (hasM_edge (H := H) (i := 0)).2 (List.mem_of_getElem? hE)
              have hal2 : al = true ↔ ∀ r ∈ L, hasM r.words 0 (atP z.words i) w = true := by
                rw [hal, ← ha]
                constructor
                · intro h1 s hs
                  obtain ⟨b, hb⟩ := List.mem_iff_getElem?.1 hs
                  have hbl := (List.getElem?_eq_some_iff.1 hb).1
                  cases b with
                  | zero => rw [hfirst] at hb; cases hb; exact hown
                  | succ b => exact h1 (b + 1) s (by omega) (by omega) hb
                · intro h1 b s _ _ hb
                  exact h1 s (List.mem_of_getElem? hb)
              have hkn2 : kn = true ↔ ∃ y ∈ S, y.frm = (atP z.words i : Nat) ∧ y.word = w := by
                rw [hkn, ← ha]
                constructor
                · rintro ⟨b, y, _, h2, h3⟩
                  exact ⟨y, List.mem_of_getElem? h2, h3⟩
                · rintro ⟨y, h2, h3⟩
                  obtain ⟨b, hb⟩ := List.mem_iff_getElem?.1 h2
                  have hbl := (List.getElem?_eq_some_iff.1 hb).1
                  exact ⟨b, y, by omega, hb, h3⟩
              have hcond : (kn && !al || al && !kn && decide (n ≤ 64)) = false := by
                cases hka : kn with
                | true =>
                  cases haa : al with
                  | true => rfl
                  | false =>
                    rcases hknown i w hw with h1 | h1
                    · rw [← hal2, haa] at h1; cases h1
                    · exact absurd (hkn2.1 hka) h1
                | false =>
                  cases haa : al with
                  | false => rfl
                  | true =>
                    by_cases hn64 : n ≤ 64
                    · have := hkn2.2 (hall hn64 i w hw (hal2.1 haa))
                      rw [hka] at this
                      cases this
                    · simp [hn64]
              have hq3 : q a w = kn := by
                rw [Bool.eq_iff_iff, hq1, hkn2, ha]
              have hnx : (((edgesOf H 0 z.words).take (i + 1)).filter fun x => q x.frm.toNat x.word).length = c + (if kn = true then 1 else 0) := by
                rw [take_snoc hE, List.filter_append, List.length_append, ← hc]
                congr 1
                show (List.filter (fun x => q x.frm.toNat x.word) [edgOf H a w]).length = _
                rw [List.filter_cons, show (edgOf H a w).frm.toNat = a from Int.toNat_natCast a, show (edgOf H a w).word = w from rfl, hq3]
                cases kn <;> rfl
              have hus := hwf.us
              have hlm : ((w.uses.map encUse).length : Int) = w.uses.length := by rw [List.length_map]
              have hat2 : ((a : Int) + w.uses.length) = ((atP z.words (i + 1) : Nat) : Int) := by rw [atP_succ hw, ha]; omega
              have hat3 : atP z.words (i + 1) ≤ (i + 1) * 1048576 := by rw [atP_succ hw, ← ha]; omega
              conv => whnf
              skip
              refine cF hcond ?_
              conv => whnf
              skip
              refine ⟨fun hkt => ?_, fun hkt => ?_⟩
              · rw [if_pos hkt] at hnx
                conv => whnf
                repeat ((first | refine ⟨gP_of ⟨by omega, by omega⟩, ?_⟩ | refine ix (by assumption) ?_); conv => whnf)
                exact ⟨_, by omega, i + 1, c + 1, by rw [hlm, hat2]; rfl, rfl, rfl, by omega, by omega, hat3, hnx.symm⟩
              · rw [if_neg (by rw [hkt]; simp)] at hnx
                conv => whnf
                repeat ((first | refine ⟨gP_of ⟨by omega, by omega⟩, ?_⟩ | refine ix (by assumption) ?_); conv => whnf)
                exact ⟨_, by omega, i + 1, c, by rw [hlm, hat2]; rfl, rfl, rfl, by omega, by omega, hat3, hnx.symm⟩
    · rw [List.take_of_length_le (by rw [edgesOf_len]; omega), hq2] at hc
      conv => whnf
      repeat (refine gcall (worksW) ?_; conv => whnf)
      exact congrArg AV.bool (by rw [List.length_map, hc]; simp)
end Go.Abs.Wall.Lst
set_option maxRecDepth 100000
set_option linter.unusedVariables false
namespace Go.Abs.Wall
open Go Go.Abs Go.Proofs Go.Proofs.YtoncocddopjjcaaGreat.Br
theorem args1 {ts : List TypeId} {a : TypeId} {xs : List AV} (ht : ts = [a]) (h : ArgShs Tryz.prog B20 ts xs) : ∃ x, xs = [x] ∧ ArgSh Tryz.prog B20 a x := by
  subst ht
  match xs, h with
  | [x], ⟨h1, _⟩ => exact ⟨x, rfl, h1⟩
end Go.Abs.Wall

