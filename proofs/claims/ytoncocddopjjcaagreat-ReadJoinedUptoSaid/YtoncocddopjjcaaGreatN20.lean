/- What is proved: small laws for the walks of this seat, and contracts of its functions. No condition but those each theorem names. -/
import Derived.Test.YtoncocddopjjcaaGreatN19
import Derived.Test.YtoncocddopjjcaaGreatN9
import Derived.Test.YtoncocddopjjcaaGreatN10
import Derived.Test.YtoncocddopjjcaaGreatN11
import Derived.Test.YtoncocddopjjcaaGreatN8
set_option maxRecDepth 100000
set_option linter.unusedVariables false
set_option linter.unusedSimpArgs false
namespace Go.Abs.Wall.Lst
open Go Go.Abs Go.Proofs Go.Abs.Wall
/-! ### which reading comes sooner -/
def soGo : List Wrd → List Wrd → Bool
  | x :: a, y :: b => if x = y then soGo a b else lessW x y
  | _, _ => false
def soonerM (a b : Rdg) : Bool := if a.cost ≠ b.cost then decide (a.cost < b.cost) else soGo a.words b.words
theorem soGo_lex : ∀ {a b : List Wrd}, soGo a b = true ↔ lexW a b
  | [], b => by simp [soGo, lexW]
  | _ :: _, [] => by simp [soGo, lexW]
  | x :: a, y :: b => by
    unfold soGo lexW
    by_cases h : x = y
    · subst h
      rw [if_pos rfl, soGo_lex]
      constructor
      · intro h; exact .inr ⟨rfl, h⟩
      · rintro (h | h)
        · exact absurd h (zW.c.irr x)
        · exact h.2
    · rw [if_neg h]
      unfold lessW
      rw [decide_eq_true_eq]
      constructor
      · exact .inl
      · rintro (h1 | h1)
        · exact h1
        · exact absurd h1.1 h
theorem lexW_asym : ∀ {a b : List Wrd}, lexW a b → ¬ lexW b a
  | [], b, h => by simp [lexW] at h
  | _ :: _, [], h => by simp [lexW] at h
  | x :: a, y :: b, h => by
    unfold lexW at h ⊢
    rintro h2
    rcases h with h | ⟨rfl, h⟩
    · rcases h2 with h2 | ⟨rfl, h2⟩
      · exact zW.c.irr x (zW.c.tr _ _ _ h h2)
      · exact zW.c.irr _ h
    · rcases h2 with h2 | ⟨_, h2⟩
      · exact zW.c.irr _ h2
      · exact lexW_asym h h2
theorem soonerM_lt {p q : Pth} : soonerM (pthR p) (pthR q) = true ↔ ltP p q := by
  unfold soonerM ltP pthR
  simp only
  split
  · rename_i h
    rw [decide_eq_true_eq]
    constructor
    · exact .inl
    · rintro (h1 | h1)
      · exact h1
      · exact absurd h1.1 h
  · rename_i h
    have h : p.1 = q.1 := by simpa using h
    rw [soGo_lex]
    constructor
    · exact fun h1 => .inr ⟨h, h1⟩
    · rintro (h1 | h1)
      · omega
      · exact h1.2
theorem ltP_asym {p q : Pth} (h : ltP p q) : ¬ ltP q p := by
  unfold ltP at *
  rintro h2
  rcases h with h | ⟨h, h1⟩
  · rcases h2 with h2 | ⟨h2, _⟩ <;> omega
  · rcases h2 with h2 | ⟨_, h2⟩
    · omega
    · exact lexW_asym h1 h2
def SmallR (r : Rdg) : Prop := ∀ w ∈ r.words, WrdFit w ∧ WrdSmall w
def c48 : Cfg := ⟨[0, 1, 2, 3, 4, 5, 10, 27, 41], [], [], [], [(6, [0, 1, 2, 3, 4, 5, 6, 7, 8, 9, 10, 11], []), (7, [0, 1, 2, 3, 4, 5, 6, 7, 8, 9, 10, 11], [])], []⟩
theorem soonerW (a b : Rdg) (ha : SmallR a) (hb : SmallR b) (hla : a.words.length ≤ 1048576) (hlb : b.words.length ≤ 1048576) : QCall Tryz.prog 48 [.agg (encRdg a), .agg (encRdg b)] [] (.bool (soonerM a b)) := by
  refine QCall.of' ?_
  refine fcalls (F := Tryz.f48) c48 rfl rfl rfl mixed rfl fun X => ?_
  conv => whnf
  skip
  refine ⟨fun hc => ?_, fun hc => ?_⟩ <;> simp at hc
  · conv => whnf
    skip
    exact congrArg AV.bool (by unfold soonerM; rw [if_pos hc])
  have h0 : soonerM a b = soGo a.words b.words := by unfold soonerM; rw [if_neg (by omega)]
  conv => whnf
  skip
  refine sloop rfl mixed [2, 3, 5] [] (fun m r h => ∃ (i : Nat), r = [(2, [], .iptr (encRdg a)), (3, [], .iptr (encRdg b)), (5, [], .int .i64 i)] ∧ h = [] ∧ m = a.words.length - i ∧ i ≤ a.words.length ∧ i ≤ b.words.length ∧ soonerM a b = soGo (a.words.drop i) (b.words.drop i)) ?_ ?_
  · conv => whnf
    exact ⟨_, 0, rfl, rfl, rfl, by omega, by omega, h0⟩
  · rintro m r h ⟨i, rfl, rfl, rfl, hi, hj, hg⟩
    conv => whnf
    skip
    refine ⟨fun hi2 => ?_, fun hi2 => ?_⟩ <;> simp at hi2
    · obtain ⟨x, hx⟩ := get_lt hi2.1
      obtain ⟨y, hy⟩ := get_lt hi2.2
      rw [drop_cons hx, drop_cons hy, soGo] at hg
      have hxf := ha x (List.mem_of_getElem? hx)
      have hyf := hb y (List.mem_of_getElem? hy)
      conv => whnf
      repeat ((first | refine ix (by assumption) ?_ | refine gcall (sameWord x y hxf.1 hyf.1) ?_ | refine And.intro (by show drawOK (opsAt Tryz.f48 _) _ = true; decide +kernel) ?_); conv => whnf)
      refine ⟨fun hq => ?_, fun hq => ?_⟩
      · rw [Bool.not_eq_true', decide_eq_false_iff_not] at hq
        rw [if_neg hq] at hg
        conv => whnf
        repeat ((first | refine ix (by assumption) ?_ | refine gcall (refLess x y hxf.2 hyf.2) ?_ | refine And.intro (by show drawOK (opsAt Tryz.f48 _) _ = true; decide +kernel) ?_); conv => whnf)
        rw [hg]
      · rw [Bool.not_eq_false', decide_eq_true_eq] at hq
        rw [if_pos hq] at hg
        conv => whnf
        repeat (refine ⟨gP_of ⟨by omega, by omega⟩, ?_⟩; conv => whnf)
        exact ⟨_, by omega, i + 1, rfl, rfl, rfl, by omega, by omega, hg⟩
    · have he : soGo (a.words.drop i) (b.words.drop i) = false := by
        by_cases h1 : i < a.words.length
        · rw [drop_nil (l := b.words) (by have := hi2 h1; omega)]
          cases a.words.drop i <;> rfl
        · rw [drop_nil (l := a.words) (by omega)]; rfl
      rw [he] at hg
      conv => whnf
      skip
      rw [hg]
end Go.Abs.Wall.Lst
set_option maxRecDepth 100000
set_option linter.unusedVariables false
set_option linter.unusedSimpArgs false
namespace Go.Abs.Wall.Lst
open Go Go.Abs Go.Proofs Go.Abs.Wall
/-! ### what is listed -/
theorem line_lex {H : Hou} {line : List Int} (h : lineErr H line = 0) : lexErr H.lex = 0 := by
  unfold lineErr at h
  split at h
  · rename_i h1; exact absurd h h1
  rename_i h1
  have h1 : houErr H = 0 := by simpa using h1
  unfold houErr at h1
  split at h1
  · rename_i h2; exact absurd h1 h2
  split at h1
  · rename_i h2; exact absurd h1 h2
  rename_i h2
  simpa using h2
structure Good (w : Wrd) : Prop where
  fit : WrdFit w
  small : WrdSmall w
  text : ∀ u ∈ w.uses, u.text.length ≤ 8
theorem edg_good {H : Hou} {line : List Int} (hL : LineOK H line) (hle : lexErr H.lex = 0) {i : Nat} (hi : i ≤ line.length) {x : Edg} (hx : x ∈ edgsAt H line i) : Good x.word := by
  obtain ⟨⟨h1, h2, h3⟩, h4⟩ := (edgsAt_iff hL hle hi).1 hx
  have hf := frmOK h1
  have hm := hf.lex.many
  have hlen := spells_len h3
  have hcf := hf.few
  refine ⟨⟨by omega, by omega⟩, ⟨⟨?_, ?_, ?_, by omega⟩, by omega⟩, ?_⟩
  · have := hf.entry; omega
  · rcases hf.ending with h | h <;> omega
  · intro c hc
    have := hf.cli c hc
    omega
  · unfold spellsM at h3
    rw [Bool.and_eq_true, Bool.and_eq_true, wthn_iff, decide_eq_true_eq] at h3
    obtain ⟨⟨h5, h6⟩, h7⟩ := h3
    rw [spGo_iff _ _ _ h6] at h7
    intro u hu
    exact (usesIn_ok hL.hou (fun s hs => hL.signs s (List.mem_of_mem_drop (List.mem_of_mem_take hs))) h7.1 u hu).2.2.2
theorem path_good {H : Hou} {line : List Int} (hL : LineOK H line) (hle : lexErr H.lex = 0) : ∀ (l : List Edg) (i : Nat), i ≤ line.length → PathG (graphM H line) i l → ∀ x ∈ l, Good x.word
  | [], _, _, _, x, hx => by cases hx
  | y :: l, i, hi, ⟨es, hes, hy, hp⟩, x, hx => by
    have hlt := (List.getElem?_eq_some_iff.1 hes).1
    rw [graphM_len] at hlt
    rw [graphM_get hlt] at hes
    cases hes
    rcases List.mem_cons.1 hx with rfl | hx
    · exact edg_good hL hle hi hy
    · obtain ⟨⟨_, h2, _⟩, h4⟩ := (edgsAt_iff hL hle hi).1 hy
      have hto : y.to.toNat = i + y.word.uses.length := (congrArg (fun e : Edg => e.to.toNat) h4).trans (by show ((i : Int) + y.word.uses.length).toNat = _; omega)
      rw [hto] at hp
      exact path_good hL hle l _ h2 hp x hx
theorem valid_iff {H : Hou} {line : List Int} (h0 : lineErr H line = 0) (ws : List Wrd) :
    ((validM H line ws).err = 0 ↔ PathG (graphM H line) 0 (edgesOf H 0 ws)) ∧ ((validM H line ws).err = 0 → (validM H line ws).cost = sumC (edgesOf H 0 ws)) := by
  have := validGo_path (lineOK h0) (line_lex h0) ws 0 0 0 (Nat.zero_le _)
  unfold validM
  rw [if_neg (by rw [h0]; simp)]
  rw [List.drop_zero] at this
  exact ⟨this.1, fun h => by rw [this.2 h]; omega⟩
theorem grow_line {H : Hou} {line : List Int} (h : growErr H line = 0) : lineErr H line = 0 := by
  unfold growErr at h
  split at h
  · rename_i h1; exact absurd h h1
  · rename_i h1; simpa using h1
theorem list_ok {H : Hou} {line : List Int} {most : Int} (h : listErr H line most = 0) : growErr H line = 0 ∧ 1 ≤ most ∧ most ≤ 64 ∧ rdV (graphM H line) 0 ≠ [] ∧ listL H line most = rdsOf (graphM H line) most.toNat := by
  have h' := h
  unfold listErr at h
  split at h
  · rename_i h1; exact absurd h h1
  rename_i h1
  split at h
  · rename_i h2
    split at h
    · cases h
    rename_i h3
    exact ⟨by simpa using h1, h2.1, h2.2, h3, by unfold listL; rw [if_pos h']⟩
  · cases h
theorem mem_list {H : Hou} {line : List Int} {most : Int} (h : listErr H line most = 0) {i : Nat} {r : Rdg} (hr : (listL H line most)[i]? = some r) :
    (i : Int) < most ∧ ∃ p, (rdV (graphM H line) 0)[i]? = some p ∧ r = pthR p ∧ PathG (graphM H line) 0 p.2 ∧ p.1 = sumC p.2 := by
  obtain ⟨h0, h1, h2, h3, h4⟩ := list_ok h
  obtain ⟨-, -, hg⟩ := growOK h0
  rw [h4] at hr
  unfold rdsOf at hr
  rw [List.getElem?_map] at hr
  cases hp : ((rdV (graphM H line) 0).take most.toNat)[i]? with
  | none => rw [hp] at hr; cases hr
  | some p =>
    rw [hp] at hr
    have hi : i < most.toNat := by
      have := (List.getElem?_eq_some_iff.1 hp).1
      rw [List.length_take] at this
      omega
    rw [List.getElem?_take_of_lt hi] at hp
    have := (rdV_path hg (graphM H line).length 0 (by omega) p).1 (List.mem_of_getElem? hp)
    exact ⟨by omega, p, hp, (Option.some.inj hr).symm, this.1, this.2⟩
theorem listed_valid {H : Hou} {line : List Int} {most : Int} (h : listErr H line most = 0) {i : Nat} {r : Rdg} (hr : (listL H line most)[i]? = some r) :
    (validM H line r.words).err = 0 ∧ (validM H line r.words).cost = r.cost ∧ ∀ w ∈ r.words, Good w := by
  obtain ⟨h0, -⟩ := list_ok h
  have hl := grow_line h0
  obtain ⟨-, p, hp, rfl, h2, h3⟩ := mem_list h hr
  have he := path_edgesOf (lineOK hl) (line_lex hl) p.2 0 (Nat.zero_le _) h2
  have hv := valid_iff hl (pthR p).words
  have he : edgesOf H 0 (pthR p).words = p.2 := he.symm
  rw [he] at hv
  have h5 := hv.1.2 h2
  refine ⟨h5, (hv.2 h5).trans h3.symm, fun w hw => ?_⟩
  obtain ⟨x, hx, rfl⟩ := List.mem_map.1 hw
  exact path_good (lineOK hl) (line_lex hl) p.2 0 (Nat.zero_le _) h2 x hx
theorem listed_up {H : Hou} {line : List Int} {most : Int} (h : listErr H line most = 0) {i j : Nat} (hij : i < j) {r s : Rdg} (hr : (listL H line most)[i]? = some r) (hs : (listL H line most)[j]? = some s) : soonerM r s = true := by
  obtain ⟨h0, -⟩ := list_ok h
  have hl := grow_line h0
  obtain ⟨-, -, hg⟩ := growOK h0
  obtain ⟨-, p, hp, rfl, -⟩ := mem_list h hr
  obtain ⟨-, q, hq, rfl, -⟩ := mem_list h hs
  exact soonerM_lt.2 (rdV_order hg (graph_rows (lineOK hl)) (graphM H line).length 0 (by omega) i j p q hij hp hq)
theorem valid_good {H : Hou} {line : List Int} {ws : List Wrd} (h0 : lineErr H line = 0) (h : (validM H line ws).err = 0) : ∀ w ∈ ws, Good w := by
  have hp := (valid_iff h0 ws).1.1 h
  intro w hw
  rw [← edgesOf_words H ws 0] at hw
  obtain ⟨x, hx, rfl⟩ := List.mem_map.1 hw
  exact path_good (lineOK h0) (line_lex h0) _ 0 (Nat.zero_le _) hp x hx
theorem valid_in {H : Hou} {line : List Int} {ws : List Wrd} (h0 : growErr H line = 0) (h : (validM H line ws).err = 0) : ((validM H line ws).cost, edgesOf H 0 ws) ∈ rdV (graphM H line) 0 := by
  obtain ⟨-, -, hg⟩ := growOK h0
  have hv := valid_iff (grow_line h0) ws
  exact (rdV_path hg (graphM H line).length 0 (by omega) _).2 ⟨hv.1.1 h, hv.2 h⟩
theorem valid_listed {H : Hou} {line : List Int} {most : Int} {ws : List Wrd} (h : listErr H line most = 0) (hv : (validM H line ws).err = 0) :
    (∃ r ∈ listL H line most, r.words = ws) ∨ (((listL H line most).length : Int) = most ∧ ∀ r, (listL H line most)[(listL H line most).length - 1]? = some r → soonerM ⟨ws, (validM H line ws).cost⟩ r = false) := by
  obtain ⟨h0, h1, h2, h3, h4⟩ := list_ok h
  obtain ⟨-, -, hg⟩ := growOK h0
  have hm := valid_in h0 hv
  obtain ⟨p, hpe⟩ : ∃ p, p = ((validM H line ws).cost, edgesOf H 0 ws) := ⟨_, rfl⟩
  rw [← hpe] at hm
  have hpr : pthR p = ⟨ws, (validM H line ws).cost⟩ := by
    rw [hpe]
    unfold pthR
    simp only
    rw [edgesOf_words]
  rw [← hpr]
  obtain ⟨t, ht⟩ := List.mem_iff_getElem?.1 hm
  by_cases htm : t < most.toNat
  · left
    refine ⟨pthR p, ?_, by rw [hpr]⟩
    rw [h4]
    unfold rdsOf
    refine List.mem_map_of_mem (List.mem_of_getElem? (i := t) ?_)
    rw [List.getElem?_take_of_lt htm, ht]
  · right
    have htl := (List.getElem?_eq_some_iff.1 ht).1
    have hlen : (listL H line most).length = most.toNat := by
      rw [h4]
      unfold rdsOf
      rw [List.length_map, List.length_take]
      omega
    refine ⟨by omega, fun r hr => ?_⟩
    obtain ⟨h5, q, hq, rfl, -⟩ := mem_list h hr
    have := rdV_order hg (graph_rows (lineOK (grow_line h0))) (graphM H line).length 0 (by omega) _ t q p (by omega) hq ht
    cases hb : soonerM (pthR p) (pthR q) with
    | false => rfl
    | true => exact absurd (soonerM_lt.1 hb) (ltP_asym this)
theorem none_valid {H : Hou} {line : List Int} {most : Int} {ws : List Wrd} (h : listErr H line most = 52) : (validM H line ws).err ≠ 0 := by
  intro hv
  unfold listErr at h
  split at h
  · rename_i h1
    unfold growErr at h h1
    split at h
    · rename_i h2
      unfold validM at hv
      rw [if_pos h2] at hv
      exact h2 hv
    · split at h <;> cases h
  · rename_i h1
    split at h
    · split at h
      · rename_i h3
        have := valid_in (by simpa using h1) hv
        rw [h3] at this
        cases this
      · cases h
    · cases h
end Go.Abs.Wall.Lst
set_option maxRecDepth 100000
set_option linter.unusedVariables false
set_option linter.unusedSimpArgs false
namespace Go.Abs.Wall.Lst
open Go Go.Abs Go.Proofs Go.Abs.Wall
def c11 : Cfg := ⟨[0, 1, 2, 3, 6, 7, 8, 9, 11, 12, 13, 14, 16, 17, 27, 49, 67, 71, 115, 131, 148], [], [17], [], [(13, [0, 1, 2, 3, 4, 5, 6, 7, 8, 9, 10, 11, 12, 13, 14, 15, 16], []), (14, [0, 1, 2, 3, 4, 5, 6, 7, 8, 9, 10, 11, 12, 13, 14, 15, 16, 17, 18, 19, 20, 21, 22, 23, 24, 25, 26, 27], []), (19, [0, 1, 2, 3, 4, 5, 6, 7, 8, 9, 10, 11, 12, 13], [])], []⟩
theorem good_fit {ws : List Wrd} (h : ∀ w ∈ ws, Good w) (hl : ws.length ≤ 1048576) : WsFit ws :=
  ⟨hl, fun w hw => (h w hw).fit.cl, fun w hw => (h w hw).fit.us, fun w hw u hu => by have := (h w hw).text u hu; omega⟩
theorem readListedL (H : Hou) (line : List Int) (most : Int) (ws : List Wrd) (hf : HouFit H) (hl : line.length ≤ 1048576) (hw : WsFit ws) : QCall Tryz.prog 11 [.agg (encCas ⟨H, line⟩), .int .i64 most, .sl 4 none (ws.map encWrd)] [] (.bool true) := by
  have hws := hw.many
  refine QCall.of' ?_
  refine fcalls (F := Tryz.f11) c11 rfl rfl rfl mixed rfl fun X => ?_
  conv => whnf
  repeat (refine QCall.k0 (largeW H line) ?_; conv => whnf)
  refine ⟨fun hq => ?_, fun hq => ?_⟩
  · conv => whnf
    repeat (refine QCall.k0 (worksW) ?_; conv => whnf)
    done
  conv => whnf
  repeat ((first | refine QCall.k0 (listW H line most hf hl) ?_ | refine QCall.k0 (ValidW H line ws hf hl hw) ?_); conv => whnf)
  refine ⟨fun h1 => ?_, fun h1 => ?_⟩ <;> simp at h1
  · conv => whnf
    repeat (refine gcall (worksW) ?_; conv => whnf)
    exact congrArg AV.bool (by
      rw [Bool.and_true]
      by_cases h52 : listErr H line most = 52
      · have := none_valid (ws := ws) h52
        simp [this]
      · simp [h52])
  · obtain ⟨h0, hm1, hm64, hne, hle⟩ := list_ok h1
    have hlen1 : 1 ≤ (listL H line most).length ∧ ((listL H line most).length : Int) ≤ most := by
      rw [hle]
      unfold rdsOf
      rw [List.length_map, List.length_take]
      have := List.length_pos_iff.2 hne
      omega
    obtain ⟨L, hL⟩ : ∃ L, L = listL H line most := ⟨_, rfl⟩
    rw [← hL] at hlen1
    rw [← hL]
    have hsm2 : ∀ q ∈ L, SmallR q ∧ q.words.length ≤ 60 := by
      intro q hq
      rw [hL] at hq
      obtain ⟨j, hj⟩ := List.mem_iff_getElem?.1 hq
      have h5 := (listed_valid h1 hj).2.2
      exact ⟨fun w hw => ⟨(h5 w hw).fit, (h5 w hw).small⟩, (listL_fit q hq).1⟩
    conv => whnf
    skip
    refine cF (by simp; omega) ?_
    conv => whnf
    skip
    refine sloop rfl mixed [1, 2, 3, 7, 9, 11, 12, 13] [] (fun m r h => ∃ (i : Nat) (bl : Bool), r = [(1, [], .int .i64 most), (2, [], .sl 4 none (ws.map encWrd)), (3, [], .iptr (encCas ⟨H, line⟩)), (7, [], .sl 2 none (L.map encRdg)), (9, [], .int .i64 (validM H line ws).cost), (11, [], .int .i64 (validM H line ws).err), (12, [], .bool bl), (13, [], .int .i64 i)] ∧ h = [] ∧ m = L.length - i ∧ i ≤ L.length ∧ bl = (L.take i).any fun r => decide (r.words = ws)) ?_ ?_
    · conv => whnf
      exact ⟨_, 0, false, rfl, rfl, rfl, by omega, rfl⟩
    · rintro m r h ⟨i, bl, rfl, rfl, rfl, hi, hbl⟩
      conv => whnf
      skip
      refine ⟨fun hi2 => ?_, fun hi2 => ?_⟩ <;> simp at hi2
      · obtain ⟨r, hr⟩ := get_lt hi2
        have hr' := hr
        rw [hL] at hr'
        obtain ⟨hv1, hv2, hv3⟩ := listed_valid h1 hr'
        have hrf := listL_fit r (List.mem_of_getElem? hr')
        have hrw := good_fit hv3 (by have := hrf.1; omega)
        have hup : ∀ q, 0 < i → L[i - 1]? = some q → soonerM q r = true := fun q h2 hq => listed_up h1 (show i - 1 < i by omega) (hL ▸ hq) hr'
        have hsm : ∀ q ∈ L, SmallR q ∧ q.words.length ≤ 60 := by
          intro q hq
          rw [hL] at hq
          obtain ⟨j, hj⟩ := List.mem_iff_getElem?.1 hq
          have h5 := (listed_valid h1 hj).2.2
          exact ⟨fun w hw => ⟨(h5 w hw).fit, (h5 w hw).small⟩, (listL_fit q hq).1⟩
        have hQ : SmallR (L.getD ((i : Int) - 1).toNat zeroRdg) ∧ (L.getD ((i : Int) - 1).toNat zeroRdg).words.length ≤ 60 := by
          rw [List.getD_eq_getElem?_getD]
          cases hq : L[((i : Int) - 1).toNat]? with
          | none => exact ⟨fun w hw => (by cases hw), (by decide)⟩
          | some q => exact hsm q (List.mem_of_getElem? hq)
        have hR := hsm r (List.mem_of_getElem? hr)
        conv => whnf
        repeat ((first | refine ⟨gP_of ⟨by omega, by omega⟩, ?_⟩ | refine ix (by assumption) ?_ | refine gcall (ValidW H line r.words hf hl hrw) ?_ | (refine ixg (enc := encRdg) zeroRdg ?_ ?_; (focus (conv => whnf; skip)); (focus (intro g1 g2; simp only [decide_eq_true_eq] at g2; show 0 ≤ (i : Int) - 1 ∧ (i : Int) - 1 < (L.length : Int); omega)))
                       | refine gcall (soonerW (L.getD ((i : Int) - 1).toNat zeroRdg) r hQ.1 hR.1 (by omega) (by omega)) ?_ | refine And.intro (by show drawOK (opsAt Tryz.f11 _) _ = true; decide +kernel) ?_); conv => whnf)
        have hcond : (!decide ((validM H line r.words).err = 0) || !decide ((validM H line r.words).cost = r.cost) || decide (0 < (i : Int)) && !soonerM (L.getD ((i : Int) - 1).toNat zeroRdg) r) = false := by
          rw [hv1, hv2]
          by_cases h3 : 0 < i
          · obtain ⟨q, hq⟩ := get_lt (l := L) (i := i - 1) (by omega)
            have h4 := hup q h3 hq
            rw [List.getD_eq_getElem?_getD, show ((i : Int) - 1).toNat = i - 1 by omega, hq, Option.getD_some, h4]
            simp
          · simp
            omega
        refine cF hcond ?_
        conv => whnf
        repeat ((first | refine ⟨gP_of ⟨by omega, by omega⟩, ?_⟩ | refine ix (by assumption) ?_ | refine gcall (sameWords r.words ws (by omega) (by omega) hrf.2 (fun x hx => ⟨hw.cl x hx, hw.us x hx⟩)) ?_); conv => whnf)
        exact ⟨_, by omega, i + 1, _, rfl, rfl, rfl, by omega, by rw [take_snoc hr, List.any_append, ← hbl]; simp⟩
      · have hbL : bl = L.any fun r => decide (r.words = ws) := by rw [hbl, List.take_of_length_le (by omega)]
        conv => whnf
        skip
        refine ⟨fun hz => ?_, fun hz => ?_⟩
        · rw [Bool.and_eq_true, decide_eq_true_eq, Bool.not_eq_true', hbL, List.any_eq_false] at hz
          obtain ⟨hv, hnl⟩ := hz
          have hvl := valid_listed h1 hv
          rw [← hL] at hvl
          rcases hvl with ⟨r, hr, he⟩ | ⟨hle2, hso⟩
          · exact absurd (decide_eq_true he) (hnl r hr)
          · obtain ⟨q, hq⟩ := get_lt (l := L) (i := L.length - 1) (by omega)
            have hsq := hso q hq
            have hsq2 := hsm2 q (List.mem_of_getElem? hq)
            have hgd := valid_good (grow_line h0) hv
            conv => whnf
            repeat ((first | (refine ⟨gP_of ⟨by rw [List.length_map]; omega, by rw [List.length_map]; omega⟩, ?_⟩) | (refine ixn (L.length - 1) (by rw [List.length_map]; omega) hq ?_)
                           | refine gcall (soonerW ⟨ws, (validM H line ws).cost⟩ q (fun w hw => ⟨(hgd w hw).fit, (hgd w hw).small⟩) hsq2.1 hws (by omega)) ?_ | refine ⟨_, _, Rem.here _, ⟨Nat.le_of_ble_eq_true rfl, rfl⟩, ?_⟩
                           | refine And.intro (by show drawOK (opsAt Tryz.f11 _) _ = true; decide +kernel) ?_ | intro (nb : Nat)); conv => whnf)
            refine cF (by rw [hsq, Bool.or_false, decide_eq_false_iff_not, List.length_map]; omega) ?_
            conv => whnf
            repeat (refine QCall.k0 (worksW) ?_; conv => whnf)
        · conv => whnf
          repeat (refine QCall.k0 (worksW) ?_; conv => whnf)
end Go.Abs.Wall.Lst
set_option maxRecDepth 100000
set_option linter.unusedVariables false
set_option linter.unusedSimpArgs false
namespace Go.Abs.Wall.Lst
open Go Go.Abs Go.Proofs Go.Abs.Wall
/-! ### two lines, one behind the other -/
theorem best_valid {H : Hou} {line : List Int} (h : listErr H line 1 = 0) : (validM H line (bestL H line).words).err = 0 ∧ (validM H line (bestL H line).words).cost = (bestL H line).cost ∧ ∀ w ∈ (bestL H line).words, Good w := by
  obtain ⟨r, l, h1, h2⟩ := list_first h
  rw [h2]
  exact listed_valid h (i := 0) (by rw [h1]; rfl)
theorem best_least {H : Hou} {line : List Int} (h : listErr H line 1 = 0) {ws : List Wrd} (hv : (validM H line ws).err = 0) : (bestL H line).cost ≤ (validM H line ws).cost := by
  obtain ⟨h0, p, hp, hc⟩ := best_split h
  obtain ⟨-, -, hg⟩ := growOK h0
  obtain ⟨t, ht⟩ := List.mem_iff_getElem?.1 (valid_in h0 hv)
  rw [hc]
  cases t with
  | zero => rw [hp] at ht; cases ht; exact Int.le_refl _
  | succ t =>
    have := rdV_order hg (graph_rows (lineOK (grow_line h0))) (graphM H line).length 0 (by omega) 0 (t + 1) p _ (by omega) hp ht
    unfold ltP at this
    simp only at this
    omega
theorem validGo_app {H : Hou} : ∀ (ws vs : List Wrd) (la lb : List Int) (c k : Int), (validGo H la ws c k).err = 0 → ∃ k', validGo H (la ++ lb) (ws ++ vs) c k = validGo H lb vs (validGo H la ws c k).cost k'
  | [], vs, la, lb, c, k, h => by
    unfold validGo at h
    split at h
    · cases h
    · rename_i h1
      have : la = [] := List.eq_nil_of_length_eq_zero (by omega)
      subst this
      refine ⟨k, ?_⟩
      show validGo H lb vs c k = validGo H lb vs (if 0 < ([] : List Int).length then (⟨0, k, 52⟩ : Vld) else ⟨c, 0, 0⟩).cost k
      rw [if_neg (by simp)]
  | w :: ws, vs, la, lb, c, k, h => by
    rw [List.cons_append]
    unfold validGo at h
    split at h
    · rename_i h1; exact absurd h h1
    rename_i h1
    split at h
    · cases h
    rename_i h2
    have h2' : useBad H la w = false := by simpa using h2
    have h3 := useBad_no h2'
    have hu : useBad H (la ++ lb) w = false := by
      unfold useBad at h2' ⊢
      rw [List.take_append_of_le_length h3.2.2.1, List.length_append]
      rw [Bool.or_eq_false_iff, decide_eq_false_iff_not] at h2' ⊢
      exact ⟨by omega, h2'.2⟩
    obtain ⟨k', hk⟩ := validGo_app ws vs (la.drop w.uses.length) lb _ _ h
    refine ⟨k', ?_⟩
    rw [validGo, if_neg h1, if_neg (by rw [hu]; simp), List.drop_append_of_le_length h3.2.2.1, hk, validGo, if_neg h1, if_neg h2]
theorem validGo_shift {H : Hou} : ∀ (ws : List Wrd) (l : List Int) (c c' k k' : Int), ((validGo H l ws c k).err = 0 → (validGo H l ws c' k').err = 0 ∧ (validGo H l ws c' k').cost = (validGo H l ws c k).cost - c + c')
  | [], l, c, c', k, k', h => by
    unfold validGo at h ⊢
    split at h
    · cases h
    · rename_i h1
      rw [if_neg h1, if_neg h1]
      exact ⟨rfl, by simp⟩
  | w :: ws, l, c, c', k, k', h => by
    unfold validGo at h ⊢
    split at h
    · rename_i h1; exact absurd h h1
    rename_i h1
    split at h
    · cases h
    rename_i h2
    rw [if_neg h1, if_neg h2, if_neg h1, if_neg h2]
    obtain ⟨h3, h4⟩ := validGo_shift ws (l.drop w.uses.length) (c + priceM H w) (c' + priceM H w) (k + 1) (k' + 1) h
    exact ⟨h3, by omega⟩
theorem valid_join {H : Hou} {a b : List Int} {ws vs : List Wrd} (h0 : lineErr H (a ++ b) = 0) (ha : (validM H a ws).err = 0) (hb : (validM H b vs).err = 0) :
    (validM H (a ++ b) (ws ++ vs)).err = 0 ∧ (validM H (a ++ b) (ws ++ vs)).cost = (validM H a ws).cost + (validM H b vs).cost := by
  have one : ∀ {l : List Int} {us : List Wrd}, (validM H l us).err = 0 → validM H l us = validGo H l us 0 0 := by
    intro l us h
    unfold validM at h ⊢
    split at h
    · rename_i h1; exact absurd h h1
    · rename_i h1; rw [if_neg h1]
  have ea := one ha
  have eb := one hb
  rw [ea] at ha
  rw [eb] at hb
  obtain ⟨k', hk⟩ := validGo_app ws vs a b 0 0 ha
  have e : validM H (a ++ b) (ws ++ vs) = validGo H (a ++ b) (ws ++ vs) 0 0 := by unfold validM; rw [if_neg (by rw [h0]; simp)]
  rw [e, hk, ea, eb]
  obtain ⟨h3, h4⟩ := validGo_shift vs b 0 (validGo H a ws 0 0).cost 0 k' hb
  exact ⟨h3, by omega⟩
/-- the list's error is no reading, or nothing: then the graph was made -/
theorem list_err {H : Hou} {line : List Int} {m : Int} (hh : houErr H = 0) (hm : 1 ≤ m ∧ m ≤ 64) (h : listErr H line m = 0 ∨ listErr H line m = 52) : growErr H line = 0 := by
  refine Classical.byContradiction fun hn => ?_
  have he := list_grow (m := m) hn
  have hl : lineErr H line = 0 ∨ lineErr H line = 2 ∨ lineErr H line = 23 := by
    unfold lineErr
    rw [if_neg (by rw [hh]; simp)]
    split
    · simp
    · split <;> simp
  have hge : growErr H line = 0 ∨ growErr H line = 2 ∨ growErr H line = 23 := by
    unfold growErr
    split
    · omega
    · split <;> simp
  omega
theorem best_bound {H : Hou} {line : List Int} (h : listErr H line 1 = 0) : 0 ≤ (bestL H line).cost ∧ (bestL H line).cost ≤ 1080000 := by
  obtain ⟨h0, p, hp, hc⟩ := best_split h
  obtain ⟨-, -, hg⟩ := growOK h0
  have := rdV_bound hg (graphM H line).length 0 (by omega) p (List.mem_of_getElem? hp)
  have := hg.few
  rw [hc]
  omega
theorem good_fit' {ws : List Wrd} (h : ∀ w ∈ ws, Good w) (hl : ws.length ≤ 1048576) : WsFit ws :=
  ⟨hl, fun w hw => (h w hw).fit.cl, fun w hw => (h w hw).fit.us, fun w hw u hu => by have := (h w hw).text u hu; omega⟩
theorem grow_hou {H : Hou} {line : List Int} (h : growErr H line = 0) : houErr H = 0 := by
  have h := grow_line h
  unfold lineErr at h
  split at h
  · rename_i h1; exact absurd h h1
  · rename_i h1; simpa using h1
def c12 : Cfg := ⟨[0, 1, 2, 3, 6, 7, 8, 9, 10, 11, 12, 13, 14, 16, 33, 66], [], [8, 10, 12], [], [(9, [0, 1, 2, 3, 5, 6, 4, 7, 8, 9, 10, 11, 12, 13, 14, 15], []), (2, [], [])], []⟩
theorem readJoinedL (H : Hou) (a b : List Int) (hf : HouFit H) (ha : a.length ≤ 1048576) (hb : b.length ≤ 1048576) : QCall Tryz.prog 12 [.agg (encHou H), .sl 1 none (ints a), .sl 1 none (ints b)] [] (.bool true) := by
  refine QCall.of' ?_
  refine fcalls (F := Tryz.f12) c12 rfl rfl rfl mixed rfl fun X => ?_
  conv => whnf
  repeat ((first | (refine ⟨(by rw [ints_length]; unfold AMAX; omega), fun q1 => ?_⟩) | (refine ⟨(by rw [List.length_append, ints_length, ints_length]; unfold AMAX; omega), fun q2 => ⟨_, .here _, ?_⟩⟩)); conv => whnf)
  rw [show ints a ++ ints b = ints (a ++ b) by unfold ints; rw [List.map_append]]
  refine region_turn rfl mixed (Turn.trans (Turn.weak (.cons (VLe.refl _) (.cons (VLe.refl _) (.cons (VLe.refl _) (.cons (VLe.refl _) (.cons (VLe.refl _) (.cons VLe.sl .nil))))))) (Turn.drop (.here _))) ?_
  conv => whnf
  repeat (refine gcall (largeW H (a ++ b)) ?_; conv => whnf)
  refine ⟨fun hq => ?_, fun hq => ?_⟩
  · conv => whnf
    repeat (refine QCall.k0 (worksW) ?_; conv => whnf)
  rw [Bool.or_eq_false_iff, Bool.or_eq_false_iff, decide_eq_false_iff_not, decide_eq_false_iff_not, ints_length, ints_length] at hq
  conv => whnf
  repeat ((first | refine QCall.k0 (bestW H a hf ha) ?_ | refine QCall.k0 (bestW H b hf hb) ?_ | refine QCall.k0 (bestW H (a ++ b) hf (by rw [List.length_append]; omega)) ?_
                 | refine ⟨_, _, Rem.here _, ⟨Nat.le_of_ble_eq_true rfl, rfl⟩, ?_⟩ | intro (nb : Nat)); conv => whnf)
  refine ⟨fun hz => ?_, fun hz => ?_⟩
  · conv => whnf
    repeat (refine QCall.k0 (worksW) ?_; conv => whnf)
  have hz : listErr H a 1 = 0 ∧ listErr H b 1 = 0 ∧ (listErr H (a ++ b) 1 = 0 ∨ listErr H (a ++ b) 1 = 52) := by
    simp at hz
    obtain ⟨⟨h1, h2⟩, h3⟩ := hz
    exact ⟨h1, h2, by by_cases h : listErr H (a ++ b) 1 = 0; exact .inl h; exact .inr (h3 h)⟩
  obtain ⟨h1, h2, h3⟩ := hz
  have hg := list_err (grow_hou (list_ok h1).1) ⟨by decide, by decide⟩ h3
  obtain ⟨a1, a2, a3⟩ := best_valid h1
  obtain ⟨b1, b2, b3⟩ := best_valid h2
  obtain ⟨j1, j2⟩ := valid_join (grow_line hg) a1 b1
  have h4 : listErr H (a ++ b) 1 = 0 := by
    rcases h3 with h | h
    · exact h
    · exact absurd j1 (none_valid h)
  have h5 := best_least h4 j1
  rw [a2, b2] at j2
  have ba := best_bound h1
  have bb := best_bound h2
  have fa := bestL_fit (H := H) (line := a)
  have fb := bestL_fit (H := H) (line := b)
  have hV := ValidW H (a ++ b) ((bestL H a).words ++ (bestL H b).words) hf (by rw [List.length_append]; omega) (good_fit' (fun w hw => by rcases List.mem_append.1 hw with h | h; exact a3 w h; exact b3 w h) (by rw [List.length_append]; have := fa.1; have := fb.1; omega))
  rw [List.map_append] at hV
  conv => whnf
  repeat ((first | (refine ⟨(by rw [List.length_map]; have := fa.1; unfold AMAX; omega), fun q1 => ?_⟩) | (refine ⟨(by rw [List.length_append, List.length_map, List.length_map]; have := fa.1; have := fb.1; unfold AMAX; omega), fun q2 => ⟨_, .here _, ?_⟩⟩)
                 | refine And.intro (by show drawOK (opsAt Tryz.f12 _) _ = true; decide +kernel) ?_); conv => whnf)
  refine ⟨_, gP_of (QCall.args (QCall.wide hV [(q2, .tok)]) (.cons (VLe.refl _) (.cons (VLe.refl _) (.cons VLe.sl .nil)))), ?_⟩
  conv => whnf
  repeat ((first | refine ⟨gP_of ⟨by omega, by omega⟩, ?_⟩ | refine gcall (worksW) ?_); conv => whnf)
  refine congrArg AV.bool ?_
  rw [j2] at h5
  rw [h4, j1, j2, decide_eq_true h5]
  simp
end Go.Abs.Wall.Lst

