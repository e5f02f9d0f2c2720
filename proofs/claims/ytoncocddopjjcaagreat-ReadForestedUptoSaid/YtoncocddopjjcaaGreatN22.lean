/- What is proved: small laws for the walks of this seat, and contracts of its functions. No condition but those each theorem names. -/
import Derived.Test.YtoncocddopjjcaaGreatN21
import Derived.Test.YtoncocddopjjcaaGreatN10
import Derived.Test.YtoncocddopjjcaaGreatN9
set_option maxRecDepth 100000
set_option linter.unusedVariables false
set_option linter.unusedSimpArgs false
namespace Go.Abs.Wall.Lst
open Go Go.Abs Go.Proofs Go.Abs.Wall
/-! ### the forest, without the specification -/
theorem words_graph {H : Hou} {line : List Int} (h : growErr H line = 0) {i : Nat} {es : List Edg} (hi : (graphM H line)[i]? = some es) : wordsE H line i = 0 ∧ wordsLs H line i = es := by
  have hg := (growOK h).2.2
  have hm := hg.many i es hi
  have hlt := (List.getElem?_eq_some_iff.1 hi).1
  rw [graphM_len] at hlt
  rw [graphM_get hlt] at hi
  cases hi
  have he : wordsE H line i = 0 := by
    unfold wordsE
    rw [if_neg (by rw [grow_line h]; simp), if_neg (by rw [Bool.not_eq_false, wthn_iff]; omega), Int.toNat_natCast, if_neg (by omega)]
  refine ⟨he, ?_⟩
  unfold wordsLs
  rw [if_pos he, Int.toNat_natCast]
theorem endB_cons {g : List (List Edg)} (hg : GOK g) {i : Nat} {es : List Edg} (hes : g[i]? = some es) : endB g i = es.any fun x => endB g x.to.toNat := by
  have hE := hg.edge i es hes
  have hto : ∀ x ∈ es, (restT (g.drop (i + 1))).getD (x.word.uses.length - 1) 0 = restV g x.to.toNat := by
    intro x hx
    have ho := hE x hx
    have h1 := ho.lo; have h2 := ho.hi; have h3 := ho.to
    have h4 := restT_get (g.drop (i + 1)) (x.word.uses.length - 1) (by rw [List.length_drop]; omega)
    rw [restV_drop, show i + 1 + (x.word.uses.length - 1) = x.to.toNat by omega] at h4
    rw [List.getD_eq_getElem?_getD, h4]
    rfl
  have hs := foldE_spec (restT (g.drop (i + 1))) (fun x => restV g x.to.toNat) es (-1) hto (fun y hy => ⟨restV_ge hg (by have := (hE y hy).hi; omega), (hE y hy).cost.1⟩) (by omega)
  rw [← restV_consM hes] at hs
  unfold endB
  rw [Bool.eq_iff_iff, decide_eq_true_eq, List.any_eq_true]
  constructor
  · intro h
    rcases hs.1 with e | ⟨x, hx, h1, _⟩
    · exact absurd e h
    · exact ⟨x, hx, decide_eq_true h1⟩
  · rintro ⟨x, hx, h1⟩
    exact (hs.2.2 x hx (of_decide_eq_true h1)).1
theorem endB_end (g : List (List Edg)) : endB g g.length = true := by unfold endB; rw [restV_end]; rfl
/-- the last place that is reached -/
structure LastT (l : List Bool) (n last : Nat) : Prop where
  lt : last ≤ n
  on : l.getD last false = true
  off : ∀ j, last < j → j ≤ n → l.getD j false = false
theorem lastT_spec : ∀ (l : List Bool) (i far : Nat), lastT l i far = far ∧ (∀ j, l.getD j false = false) ∨ ∃ k, lastT l i far = i + k ∧ l.getD k false = true ∧ ∀ j, k < j → l.getD j false = false
  | [], i, far => .inl ⟨rfl, fun j => by simp⟩
  | b :: t, i, far => by
    unfold lastT
    rcases lastT_spec t (i + 1) (if b = true then i else far) with ⟨h1, h2⟩ | ⟨k, h1, h2, h3⟩
    · cases b with
      | true =>
        right
        refine ⟨0, by rw [h1]; simp, rfl, fun j hj => ?_⟩
        cases j with
        | zero => omega
        | succ j => simpa using h2 j
      | false =>
        left
        refine ⟨by rw [h1]; simp, fun j => ?_⟩
        cases j with
        | zero => rfl
        | succ j => simpa using h2 j
    · right
      refine ⟨k + 1, by rw [h1]; omega, by simpa using h2, fun j hj => ?_⟩
      cases j with
      | zero => omega
      | succ j => simpa using h3 j (by omega)
theorem LastT.eq {l : List Bool} {n last : Nat} (h : LastT l n last) (hl : l.length = n + 1) : lastT l 0 0 = last := by
  rcases lastT_spec l 0 0 with ⟨h1, h2⟩ | ⟨k, h1, h2, h3⟩
  · have := h.on
    rw [h2] at this
    cases this
  · rw [h1, Nat.zero_add]
    have hk : k ≤ n := by
      refine Classical.byContradiction fun hn => ?_
      rw [List.getD_eq_getElem?_getD, List.getElem?_eq_none (by omega)] at h2
      cases h2
    rcases Nat.lt_trichotomy k last with e | e | e
    · have := h3 last e
      rw [h.on] at this
      cases this
    · exact e
    · have := h.off k e hk
      rw [h2] at this
      cases this
theorem LastT.set {l : List Bool} {n last t : Nat} (h : LastT l n last) (ht : t ≤ n) (hl : l.length = n + 1) : LastT (l.set t true) n (max last t) := by
  refine ⟨by have := h.lt; omega, ?_, fun j hj hn => ?_⟩
  · rw [getD_set]
    by_cases e : last ≤ t
    · exact .inr ⟨by omega, by omega⟩
    · left
      rw [show max last t = last by omega]
      exact h.on
  · have h1 := h.off j (by omega) hn
    rw [List.getD_eq_getElem?_getD, List.getElem?_set_ne (by omega), ← List.getD_eq_getElem?_getD]
    exact h1
theorem line_sub {H : Hou} {line : List Int} (h : lineErr H line = 0) (a b : Nat) : lineErr H ((line.drop a).take b) = 0 := by
  unfold lineErr at h ⊢
  split at h
  · rename_i h1; exact absurd h h1
  rename_i h1
  split at h
  · cases h
  rename_i h2
  split at h
  · cases h
  rename_i h3
  rw [if_neg h1, if_neg (by rw [List.length_take, List.length_drop]; omega), if_neg]
  rw [Bool.not_eq_true, List.any_eq_false] at h3 ⊢
  exact fun x hx => h3 x (List.mem_of_mem_drop (List.mem_of_mem_take hx))
theorem price_edge {H : Hou} {line : List Int} (h : growErr H line = 0) {i : Nat} {es : List Edg} (hi : (graphM H line)[i]? = some es) {x : Edg} (hx : x ∈ es) :
    priceE H ((line.drop i).take (x.to.toNat - i)) x.word = 0 ∧ priceL H ((line.drop i).take (x.to.toNat - i)) x.word = x.cost ∧ Good x.word := by
  have hl := grow_line h
  have hlt := (List.getElem?_eq_some_iff.1 hi).1
  rw [graphM_len] at hlt
  rw [graphM_get hlt] at hi
  cases hi
  obtain ⟨⟨h1, h2, h3⟩, h4⟩ := (edgsAt_iff (lineOK hl) (line_lex hl) (by omega)).1 hx
  have hto : x.to.toNat - i = x.word.uses.length := by
    have : x.to.toNat = i + x.word.uses.length := (congrArg (fun e : Edg => e.to.toNat) h4).trans (by show ((i : Int) + x.word.uses.length).toNat = _; omega)
    omega
  rw [hto]
  have he : priceE H ((line.drop i).take x.word.uses.length) x.word = 0 := by
    unfold priceE
    rw [if_neg (by rw [line_sub hl]; simp), if_neg (by rw [h1]; simp), if_pos h3]
  refine ⟨he, ?_, edg_good (lineOK hl) (line_lex hl) (by omega) hx⟩
  unfold priceL
  rw [if_pos he]
  exact (congrArg Edg.cost h4).symm
def c15 : Cfg := ⟨[0, 1, 2, 3, 4, 5, 6, 7, 8, 9, 10, 11, 12, 13, 14, 15, 16, 17, 18, 19, 20, 21, 22, 23, 30, 39, 58, 69, 77, 104, 133, 137, 155, 164, 189, 198, 217], [], [3], [], [(1, [0, 1, 2, 3, 4, 5, 6], [3]), (24, [0, 1, 2, 3, 4, 5, 6, 7, 8, 9, 10, 11, 12, 13, 14, 15, 16, 17, 18, 19], []), (30, [], []), (37, [], []), (46, [], [])], []⟩
end Go.Abs.Wall.Lst
set_option maxRecDepth 100000
set_option linter.unusedVariables false
set_option linter.unusedSimpArgs false
namespace Go.Abs.Wall.Lst
open Go Go.Abs Go.Proofs Go.Abs.Wall
def WW (g : List (List Edg)) (i j : Nat) : AV := if j < i then .sl 7 none ((g.getD j []).map encEdg) else .nilS
def TE (g : List (List Edg)) (a : Nat) : List Bool := (List.range (g.length + 1)).map fun j => decide (a ≤ j) && endB g j
def TK (g : List (List Edg)) (es : List Edg) (d k : Nat) : List Bool := (List.range (g.length + 1)).map fun j => if j = d then (es.take k).any (fun x => endB g x.to.toNat) else decide (d + 1 ≤ j) && endB g j
theorem TE_TK (g : List (List Edg)) (es : List Edg) (d : Nat) : TE g (d + 1) = TK g es d 0 := by
  unfold TE TK
  refine List.map_congr_left fun j _ => ?_
  by_cases h : j = d
  · rw [if_pos h, decide_eq_false (by omega)]; rfl
  · rw [if_neg h]
theorem TK_TE {g : List (List Edg)} (hg : GOK g) {es : List Edg} {d k : Nat} (hes : g[d]? = some es) (hk : es.length ≤ k) : TK g es d k = TE g d := by
  unfold TE TK
  refine List.map_congr_left fun j _ => ?_
  by_cases h : j = d
  · rw [if_pos h, h, decide_eq_true (Nat.le_refl _), Bool.true_and, endB_cons hg hes, List.take_of_length_le hk]
  · rw [if_neg h]
    by_cases h2 : d + 1 ≤ j
    · rw [decide_eq_true h2, decide_eq_true (show d ≤ j by omega)]
    · rw [decide_eq_false h2, decide_eq_false (show ¬ d ≤ j by omega)]
theorem TK_at (g : List (List Edg)) (es : List Edg) (d k : Nat) (hd : d < g.length) : (TK g es d k)[d]? = some ((es.take k).any fun x => endB g x.to.toNat) := by
  unfold TK
  rw [List.getElem?_map, List.getElem?_range (by omega), Option.map_some, if_pos rfl]
theorem TK_to (g : List (List Edg)) (es : List Edg) {d : Nat} (k : Nat) {t : Nat} (hd : d < t) (ht : t ≤ g.length) : (TK g es d k)[t]? = some (endB g t) := by
  unfold TK
  rw [List.getElem?_map, List.getElem?_range (by omega), Option.map_some, if_neg (by omega), decide_eq_true (by omega), Bool.true_and]
theorem TK_set (g : List (List Edg)) (es : List Edg) {d k : Nat} {x : Edg} (hx : es[k]? = some x) (hd : d < g.length) : (TK g es d k).set d ((es.take k).any (fun x => endB g x.to.toNat) || endB g x.to.toNat) = TK g es d (k + 1) := by
  refine List.ext_getElem? fun j => ?_
  unfold TK
  rw [List.getElem?_set, List.getElem?_map, List.getElem?_map]
  by_cases h : d = j
  · subst h
    rw [if_pos rfl, if_pos (by simp; omega), List.getElem?_range (by omega), Option.map_some, if_pos rfl, take_snoc hx, List.any_append]
    simp
  · rw [if_neg h]
    by_cases hj : j < g.length + 1
    · rw [List.getElem?_range hj, Option.map_some, Option.map_some, if_neg (Ne.symm h), if_neg (Ne.symm h)]
    · rw [List.getElem?_eq_none (by simp; omega)]; rfl
set_option maxHeartbeats 2000000 in
theorem readForestedL (H : Hou) (line : List Int) (hf : HouFit H) (hl : line.length ≤ 1048576) : QCall Tryz.prog 15 [.agg (encCas ⟨H, line⟩)] [] (.bool true) := by
  have hff := forestL_fit (H := H) (line := line)
  refine QCall.of' ?_
  refine fcalls (F := Tryz.f15) c15 rfl rfl rfl mixed rfl fun X => ?_
  conv => whnf
  repeat ((first | refine QCall.k0 (largeW H line) ?_ | refine ⟨_, _, Rem.here _, ?_⟩ | refine ⟨_, _, .here _, leOK, ?_⟩ | refine And.intro (by show drawOK (opsAt Tryz.f15 _) _ = true; decide +kernel) ?_
                 | intro (nb : Nat)); conv => whnf)
  refine ⟨fun hq => ?_, fun hq => ?_⟩
  · conv => whnf
    repeat (refine QCall.k0 (worksW) ?_; conv => whnf)
  conv => whnf
  repeat (refine QCall.k0 (ForestW H line hf hl) ?_; conv => whnf)
  refine ⟨fun h0 => ?_, fun h0 => ?_⟩ <;> simp at h0
  · conv => whnf
    repeat (refine QCall.k0 (worksW) ?_; conv => whnf)
  have hG := graph_gp h0
  have hg := hG.ok
  have hgl : (graphM H line).length = line.length := graphM_len H line
  obtain ⟨g, hge⟩ : ∃ g, g = graphM H line := ⟨_, rfl⟩
  rw [← hge] at hG hg hgl
  have hfew := hg.few
  have hil : ((ints line).length : Int) = (g.length : Int) := by rw [ints_length, hgl]
  conv => whnf
  repeat ((refine ⟨⟨rfl, by rw [hil]; omega, by rw [hil]; omega⟩, fun wb => ?_⟩); conv => whnf)
  refine make_region rfl mixed [0, 1, 3, 4] [2, 5] [6, 7] [] (by show drawOK (opsAt Tryz.f15 _) _ = true; decide +kernel) ?_
  conv => whnf
  repeat ((refine ⟨gP_of ⟨by rw [hil]; omega, by rw [hil]; omega⟩, ?_⟩); conv => whnf)
  apply byKey2
  · intro key
    refine ⟨by decide +kernel, ?_, ?_, trivial⟩
    · conv => whnf
      refine ⟨by decide +kernel, ?_⟩
      conv => whnf
      refine ⟨⟨rfl, by rw [hil]; omega, by rw [hil]; omega⟩, fun n1 => ?_⟩
      conv => whnf
      refine ⟨by decide +kernel, ?_, trivial⟩
      conv => whnf
      refine ⟨by decide +kernel, ?_⟩
      conv => whnf
      refine ⟨⟨rfl, by rw [hil]; omega, by rw [hil]; omega⟩, fun n2 => ?_⟩
      conv => whnf
      skip
      exact ⟨_, _, Turn.refl _ _, key n1 n2⟩
    · conv => whnf
      refine ⟨by decide +kernel, ?_⟩
      conv => whnf
      refine ⟨⟨rfl, by rw [hil]; omega, by rw [hil]; omega⟩, fun n2 => ?_⟩
      conv => whnf
      refine ⟨by decide +kernel, ?_, trivial⟩
      conv => whnf
      refine ⟨by decide +kernel, ?_⟩
      conv => whnf
      refine ⟨⟨rfl, by rw [hil]; omega, by rw [hil]; omega⟩, fun n1 => ?_⟩
      conv => whnf
      skip
      exact ⟨_, _, Turn.perm (.swap _ _ _), key n1 n2⟩
  · intro n1 n2
    conv => whnf
    have e1 : (((ints (Cas.line ⟨H, line⟩)).length : Int) + 1).toNat = g.length + 1 := by show (((ints line).length : Int) + 1).toNat = _; rw [hil]; omega
    have e2 : (((ints (Cas.line ⟨H, line⟩)).length : Int)).toNat = g.length := by show (((ints line).length : Int)).toNat = _; rw [hil]; omega
    have e3 : (((ints (Cas.line ⟨H, line⟩)).length : Int)) = (g.length : Int) := hil
    rw [e1, e2, boolRow0, show repC g.length [AV.nilS] = rowsF g.length (WW g 0) from (repC_F _ _).trans (rowsF_congr fun j hj => by unfold WW; rw [if_neg (by omega)])]
    rw [e3]
    repeat ((first | (refine ixo (i := 0) (by omega) ?_) | (refine ⟨g.length, gP_of ⟨by omega, by omega⟩, ?_⟩) | (refine stE true (by decide) encB_len (i := 0) (by simp) (Nat.zero_add _) rfl (.there (.here _)) ?_)
                   | (refine stE true (by decide) encB_len (i := g.length) (by simp) (Nat.zero_add _) rfl (.here _) ?_)); conv => whnf)
    obtain ⟨l0, hl0⟩ : ∃ l, l = (List.replicate (g.length + 1) false).set 0 true := ⟨_, rfl⟩
    obtain ⟨T0, hT0⟩ : ∃ l, l = (List.replicate (g.length + 1) false).set g.length true := ⟨_, rfl⟩
    have hrm : reachM g wantAll = reachGo wantAll g 0 l0 := by rw [hl0]; rfl
    have hll0 : l0.length = g.length + 1 := by rw [hl0]; simp
    have hlast0 : LastT l0 g.length 0 := by
      refine ⟨by omega, ?_, fun j h1 h2 => ?_⟩
      · rw [hl0, getD_set]; exact .inr ⟨rfl, by simp⟩
      · rw [hl0, List.getD_eq_getElem?_getD, List.getElem?_set_ne (by omega), List.getElem?_replicate]
        split <;> rfl
    rw [← hl0, ← hT0]
    refine tloop rfl mixed [3, 4, 5, 7, 8, 9, 10, 11, 12] [] (fun m r h => ∃ (i last : Nat) (l : List Bool), r = [(3, [], .iptr (encHou H)), (4, [], .sl 1 none (ints line)), (5, [], .sl 7 none ((forestL H line).map encEdg)), (7, [], .int .i64 g.length), (8, [], .osl wb 0 g.length 1), (9, [], .osl n1 0 (g.length + 1) 1), (10, [], .osl n2 0 (g.length + 1) 1), (11, [], .int .i64 last), (12, [], .int .i64 i)] ∧ h = [(n2, .vec (T0.map encB).flatten), (n1, .vec (l.map encB).flatten), (wb, .vec (rowsF g.length (WW g i)))] ∧ m = g.length - i ∧ i ≤ g.length ∧ l.length = g.length + 1 ∧ LastT l g.length last ∧ reachM g wantAll = reachGo wantAll (g.drop i) i l) ?_ ?_
    · conv => whnf
      exact ⟨_, _, Turn.refl _ _, _, 0, 0, l0, rfl, rfl, rfl, by omega, hll0, hlast0, hrm⟩
    · clear hl0 hrm hll0 hlast0
      rintro m r h' ⟨i, last, l, rfl, rfl, rfl, hi, hl2, hla, hgo⟩
      conv => whnf
      skip
      refine ⟨fun hi2 => ?_, fun hi2 => ?_⟩ <;> simp at hi2
      · obtain ⟨es, hes⟩ := get_lt hi2
        have hes' := hes
        rw [hge] at hes'
        obtain ⟨hw1, hw2⟩ := words_graph h0 hes'
        have hmany := hg.many i es hes
        rw [drop_cons hes, reachGo] at hgo
        have hwx := wordsX H line i hf hl
        rw [hw1, hw2] at hwx
        have hww : ∀ {v}, v = AV.sl 7 none (es.map encEdg) → rowsF g.length (fun j => if j = 0 + i * 1 then v else WW g i j) = rowsF g.length (WW g (i + 1)) := by
          rintro v rfl
          refine rowsF_congr fun j hj => ?_
          unfold WW
          by_cases h : j = i
          · rw [if_pos (show j = 0 + i * 1 by omega), if_pos (by omega), h, getD_of hes]
          · rw [if_neg (show ¬ j = 0 + i * 1 by omega)]
            by_cases h2 : j < i
            · rw [if_pos h2, if_pos (by omega)]
            · rw [if_neg h2, if_neg (by omega)]
        conv => whnf
        repeat ((first | refine QCall.k0 (hwx) ?_ | (refine ⟨i, gP_of ⟨rfl, by omega⟩, ?_⟩) | (refine stoF ?_ (.there (.there (.here _))) ?_; (focus (show 0 + i * 1 < g.length; omega)))
                       | (refine cF (by simp) ?_)); conv => whnf)
        rw [hww rfl]
        refine tloop rfl mixed [3, 4, 5, 7, 8, 9, 10, 11, 12, 13, 15] [] (fun m r h => ∃ (k last : Nat) (l : List Bool), r = [(3, [], .iptr (encHou H)), (4, [], .sl 1 none (ints line)), (5, [], .sl 7 none ((forestL H line).map encEdg)), (7, [], .int .i64 g.length), (8, [], .osl wb 0 g.length 1), (9, [], .osl n1 0 (g.length + 1) 1), (10, [], .osl n2 0 (g.length + 1) 1), (11, [], .int .i64 last), (12, [], .int .i64 i), (13, [], .sl 7 none (es.map encEdg)), (15, [], .int .i64 k)] ∧ h = [(n2, .vec (T0.map encB).flatten), (n1, .vec (l.map encB).flatten), (wb, .vec (rowsF g.length (WW g (i + 1))))] ∧ m = es.length - k ∧ k ≤ es.length ∧ l.length = g.length + 1 ∧ LastT l g.length last ∧ reachM g wantAll = reachGo wantAll (g.drop (i + 1)) (i + 1) (markK wantAll i (es.drop k) k l)) ?_ ?_
        · conv => whnf
          exact ⟨_, _, Turn.refl _ _, _, 0, last, l, rfl, rfl, rfl, by omega, hl2, hla, hgo⟩
        · clear hgo hl2 hla hww
          rintro m r h' ⟨k, last, l, rfl, rfl, rfl, hk, hl2, hla, hgo⟩
          have hlt := hla.lt
          conv => whnf
          skip
          refine ⟨fun hk2 => ?_, fun hk2 => ?_⟩ <;> simp at hk2
          · obtain ⟨x, hx⟩ := get_lt hk2
            have hxm := List.mem_of_getElem? hx
            have hxo := hg.edge i es hes x hxm
            have h1 := hxo.lo
            have h2 := hxo.hi
            have hfr := hG.frm i es hes x hxm
            obtain ⟨p1, p2, p3⟩ := price_edge h0 hes' hxm
            have hpr := PriceW H ((line.drop i).take (x.to.toNat - i)) x.word hf (by rw [List.length_take, List.length_drop]; omega) p3.fit.cl (fun u hu => by have := p3.text u hu; omega) p3.fit.us
            rw [p1, p2, show ints ((line.drop i).take (x.to.toNat - i)) = List.drop ((i : Int)).toNat (List.take x.to.toNat (ints line)) by unfold ints; rw [Int.toNat_natCast, List.drop_take, List.map_take, List.map_drop]] at hpr
            obtain ⟨li, hli⟩ := get_lt (l := l) (i := i) (by omega)
            have hgd := getD_of (d := false) hli
            rw [drop_cons hx, markK, hgd] at hgo
            have c1 : (!decide (x.frm = (i : Int)) || decide (x.to ≤ (i : Int)) || decide ((g.length : Int) < x.to)) = false := by
              rw [hfr]; simp; omega
            conv => whnf
            repeat (refine ix (by assumption) ?_; conv => whnf)
            refine cF c1 ?_
            conv => whnf
            repeat ((first | refine ⟨gP_of ⟨by omega, by omega⟩, ?_⟩ | refine ix (by assumption) ?_ | refine gcall (hpr) ?_ | refine And.intro (by show drawOK (opsAt Tryz.f15 _) _ = true; decide +kernel) ?_); conv => whnf)
            refine cF (by simp) ?_
            conv => whnf
            repeat ((first | (refine ixo (i := i) (by omega) ?_) | (refine ldE encB_len (.tail _ (.head _)) (Nat.zero_add _) hli ?_)); conv => whnf)
            refine ⟨fun hf1 => ?_, fun hf1 => ?_⟩
            · have hf1 : li = true := hf1
              rw [hf1, if_pos (show (true && wantAll i k) = true from rfl)] at hgo
              conv => whnf
              repeat ((first | refine ⟨gP_of ⟨by omega, by omega⟩, ?_⟩ | refine ix (by assumption) ?_ | (refine ⟨x.to.toNat, gP_of ⟨by omega, by omega⟩, ?_⟩) | (refine stE true (by decide) encB_len (i := x.to.toNat) (by omega) (Nat.zero_add _) rfl (.there (.here _)) ?_)); conv => whnf)
              exact ⟨_, _, Turn.refl _ _, _, (by omega), k + 1, max last x.to.toNat, _, by rw [show ((max last x.to.toNat : Nat) : Int) = max (last : Int) x.to by omega]; rfl, rfl, rfl, by omega, by rw [List.length_set]; exact hl2, hla.set (by omega) hl2, hgo⟩
            · have hf1 : li = false := hf1
              rw [hf1, Bool.false_and, if_neg (by decide)] at hgo
              conv => whnf
              repeat (refine ⟨gP_of ⟨by omega, by omega⟩, ?_⟩; conv => whnf)
              exact ⟨_, _, Turn.refl _ _, _, (by omega), k + 1, last, _, rfl, rfl, rfl, by omega, hl2, hla, hgo⟩
          · rw [drop_nil hk2, markK] at hgo
            conv => whnf
            repeat (refine ⟨gP_of ⟨by omega, by omega⟩, ?_⟩; conv => whnf)
            exact ⟨_, _, Turn.refl _ _, _, (by omega), i + 1, last, _, rfl, rfl, rfl, by omega, hl2, hla, hgo⟩
      · obtain rfl : i = g.length := by omega
        rw [drop_nil (Nat.le_refl _), reachGo] at hgo
        have hlt := hla.lt
        conv => whnf
        skip
        have hfw : g.map encEdgs = (List.range g.length).map fun j => [WW g g.length j] := by
          refine List.ext_getElem? fun j => ?_
          rw [List.getElem?_map, List.getElem?_map]
          by_cases hj : j < g.length
          · obtain ⟨es, hes⟩ := get_lt hj
            rw [List.getElem?_range hj, hes]
            show some (encEdgs es) = some [WW g g.length j]
            unfold WW encEdgs
            rw [if_pos hj, getD_of hes]
          · rw [List.getElem?_eq_none (by omega), List.getElem?_eq_none (by simp; omega)]; rfl
        have hR : l = reachM g wantAll := hgo.symm
        refine region_turn rfl mixed (Turn.trans (Turn.freeze (b := wb) (.there (.there (.here _))) (FzH.refl _) (.cons (.refl _) (.cons (.refl _) (.cons (.refl _) (.cons (.refl _) (.cons (fzF hfw) (FzR.refl _))))))) (Turn.freeze (b := n1) (.there (.here _)) (FzH.refl _) (.cons (.refl _) (.cons (.refl _) (.cons (.refl _) (.cons (.refl _) (.cons (.refl _) (.cons (fzEnc encB_len hl2) (FzR.refl _))))))))) ?_
        conv => whnf
        repeat (refine ⟨gP_of ⟨by omega, by omega⟩, ?_⟩; conv => whnf)
        have hT1 : T0 = TE g g.length := by
          rw [hT0]
          unfold TE
          refine List.ext_getElem? fun j => ?_
          rw [List.getElem?_set, List.getElem?_map]
          by_cases hj : j < g.length + 1
          · rw [List.getElem?_range hj]
            by_cases e : g.length = j
            · subst e
              rw [if_pos rfl, if_pos (by simp), Option.map_some, endB_end]; simp
            · rw [if_neg e, List.getElem?_replicate, if_pos hj, Option.map_some, decide_eq_false (show ¬ g.length ≤ j by omega)]; rfl
          · rw [if_neg (by omega), List.getElem?_eq_none (by simp; omega), List.getElem?_eq_none (by simp; omega)]; rfl
        rw [hT1]
        refine tloop rfl mixed [3, 4, 5, 7, 8, 9, 10, 11, 18] [] (fun m r h => ∃ (a : Nat) (c : Int), r = [(3, [], .iptr (encHou H)), (4, [], .sl 1 none (ints line)), (5, [], .sl 7 none ((forestL H line).map encEdg)), (7, [], .int .i64 g.length), (8, [], .sl 1 none (g.map encEdgs)), (9, [], .sl 1 none (l.map encB)), (10, [], .osl n2 0 (g.length + 1) 1), (11, [], .int .i64 last), (18, [], .int .i64 c)] ∧ h = [(n2, .vec ((TE g a).map encB).flatten)] ∧ m = a ∧ c = (a : Int) - 1 ∧ a ≤ g.length) ?_ ?_
        · conv => whnf
          exact ⟨_, _, Turn.refl _ _, _, g.length, _, rfl, rfl, rfl, rfl, by omega⟩
        · rintro a r h' ⟨a', c, rfl, rfl, rfl, hca, ha⟩
          conv => whnf
          skip
          refine ⟨fun ha2 => ?_, fun ha2 => ?_⟩ <;> simp at ha2
          · obtain ⟨d, rfl⟩ : ∃ d, a = d + 1 := ⟨a - 1, by omega⟩
            have hcd : c = (d : Int) := by omega
            subst hcd
            obtain ⟨es, hes⟩ := get_lt (l := g) (i := d) (by omega)
            have hmany := hg.many d es hes
            rw [show TE g (d + 1) = TK g es d 0 from TE_TK g es d]
            conv => whnf
            skip
            refine tloop rfl mixed [3, 4, 5, 7, 8, 9, 10, 11, 18, 19] [] (fun m r h => ∃ (k : Nat), r = [(3, [], .iptr (encHou H)), (4, [], .sl 1 none (ints line)), (5, [], .sl 7 none ((forestL H line).map encEdg)), (7, [], .int .i64 g.length), (8, [], .sl 1 none (g.map encEdgs)), (9, [], .sl 1 none (l.map encB)), (10, [], .osl n2 0 (g.length + 1) 1), (11, [], .int .i64 last), (18, [], .int .i64 d), (19, [], .int .i64 k)] ∧ h = [(n2, .vec ((TK g es d k).map encB).flatten)] ∧ m = es.length - k ∧ k ≤ es.length) ?_ ?_
            · conv => whnf
              exact ⟨_, _, Turn.refl _ _, _, 0, rfl, rfl, rfl, by omega⟩
            · rintro m r h' ⟨k, rfl, rfl, rfl, hk⟩
              conv => whnf
              repeat (refine ix (by assumption) ?_; conv => whnf)
              refine ⟨fun hk2 => ?_, fun hk2 => ?_⟩ <;> simp at hk2
              · obtain ⟨x, hx⟩ := get_lt hk2
                have hxm := List.mem_of_getElem? hx
                have hxo := hg.edge d es hes x hxm
                have h1 := hxo.lo
                have h2 := hxo.hi
                conv => whnf
                repeat ((first | refine ix (by assumption) ?_ | (refine ixo (i := d) (by omega) ?_) | (refine ldE encB_len (.head _) (Nat.zero_add _) (TK_at g es d k (by omega)) ?_)
                               | (refine ⟨x.to.toNat, gP_of ⟨by omega, by omega⟩, ?_⟩) | (refine ldE encB_len (.head _) (Nat.zero_add _) (TK_to g es k (show d < x.to.toNat by omega) (by omega)) ?_)); conv => whnf)
                refine stE (enc := encB) (L := TK g es d k) ((es.take k).any (fun x => endB g x.to.toNat) || endB g x.to.toNat) (by decide) encB_len (i := d) (by simp [TK]; omega) (Nat.zero_add _) rfl (.here _) ?_
                rw [TK_set g es hx (by omega)]
                conv => whnf
                repeat (refine ⟨gP_of ⟨by omega, by omega⟩, ?_⟩; conv => whnf)
                exact ⟨_, _, Turn.refl _ _, _, (by omega), k + 1, rfl, rfl, rfl, by omega⟩
              · rw [TK_TE hg hes hk2]
                conv => whnf
                repeat (refine ⟨gP_of ⟨by omega, by omega⟩, ?_⟩; conv => whnf)
                exact ⟨_, _, Turn.refl _ _, _, (by omega), d, _, rfl, rfl, rfl, rfl, by omega⟩
          · obtain rfl : a = 0 := by omega
            have hTl : (TE g 0).length = g.length + 1 := by simp [TE]
            have hTg : ∀ t, t ≤ g.length → (TE g 0)[t]? = some (endB g t) := by
              intro t ht
              unfold TE
              rw [List.getElem?_map, List.getElem?_range (by omega), Option.map_some, decide_eq_true (Nat.zero_le _), Bool.true_and]
            obtain ⟨D, hD⟩ : ∃ D, D = TE g 0 := ⟨_, rfl⟩
            rw [← hD] at hTl hTg
            rw [← hD]
            conv => whnf
            skip
            refine region_turn rfl mixed (Turn.freeze (b := n2) (.here _) (FzH.refl _) (.cons (.refl _) (.cons (.refl _) (.cons (.refl _) (.cons (.refl _) (.cons (.refl _) (.cons (.refl _) (.cons (fzEnc encB_len hTl) (FzR.refl _))))))))) ?_
            have hfl : forestL H line = forestGo g l g 0 := by rw [forestL, if_pos h0, ← hge, forestG, hR]
            have htot := forestGo_len g l g 0
            conv => whnf
            skip
            refine tloop rfl mixed [3, 4, 5, 7, 8, 9, 10, 11, 20, 21] [] (fun m r h => ∃ (i : Nat) (o : List Edg) (v : AV) (hp : Heap), r = [(3, [], .iptr (encHou H)), (4, [], .sl 1 none (ints line)), (5, [], .sl 7 none ((forestL H line).map encEdg)), (7, [], .int .i64 g.length), (8, [], .sl 1 none (g.map encEdgs)), (9, [], .sl 1 none (l.map encB)), (10, [], .sl 1 none (D.map encB)), (11, [], .int .i64 last), (20, [], v), (21, [], .int .i64 i)] ∧ h = hp ∧ m = g.length - i ∧ i ≤ g.length ∧ Out 7 encEdg o v hp ∧ o.length ≤ 2000 * i ∧ forestGo g l g 0 = o ++ forestGo g l (g.drop i) i) ?_ ?_
            · conv => whnf
              exact ⟨_, _, Turn.refl _ _, _, 0, [], _, _, rfl, rfl, rfl, by omega, .inl ⟨rfl, rfl, rfl⟩, by simp, rfl⟩
            · rintro m r h' ⟨i, o, v, hp, rfl, rfl, rfl, hi, ho, hol, hfo⟩
              conv => whnf
              skip
              refine ⟨fun hi2 => ?_, fun hi2 => ?_⟩ <;> simp at hi2
              · obtain ⟨es, hes⟩ := get_lt hi2
                have hmany := hg.many i es hes
                rw [drop_cons hes, forestGo] at hfo
                obtain ⟨fi, hfi⟩ := get_lt (l := l) (i := i) (by omega)
                have hgd := getD_of (d := false) hfi
                conv => whnf
                skip
                refine tloop rfl mixed [3, 4, 5, 7, 8, 9, 10, 11, 20, 21, 22] [] (fun m r h => ∃ (k : Nat) (o : List Edg) (v : AV) (hp : Heap), r = [(3, [], .iptr (encHou H)), (4, [], .sl 1 none (ints line)), (5, [], .sl 7 none ((forestL H line).map encEdg)), (7, [], .int .i64 g.length), (8, [], .sl 1 none (g.map encEdgs)), (9, [], .sl 1 none (l.map encB)), (10, [], .sl 1 none (D.map encB)), (11, [], .int .i64 last), (20, [], v), (21, [], .int .i64 i), (22, [], .int .i64 k)] ∧ h = hp ∧ m = es.length - k ∧ k ≤ es.length ∧ Out 7 encEdg o v hp ∧ o.length ≤ 2000 * i + k ∧ forestGo g l g 0 = o ++ ((es.drop k).filter (inForest g l i) ++ forestGo g l (g.drop (i + 1)) (i + 1))) ?_ ?_
                · conv => whnf
                  exact ⟨_, _, Turn.refl _ _, _, 0, o, _, _, rfl, rfl, rfl, by omega, ho, by omega, hfo⟩
                · clear hfo hol ho
                  rintro m r h' ⟨k, o, v, hp, rfl, rfl, rfl, hk, ho, hol, hfo⟩
                  conv => whnf
                  repeat (refine ix (by assumption) ?_; conv => whnf)
                  refine ⟨fun hk2 => ?_, fun hk2 => ?_⟩ <;> simp at hk2
                  · obtain ⟨x, hx⟩ := get_lt hk2
                    have hxo := hg.edge i es hes x (List.mem_of_getElem? hx)
                    have h1 := hxo.lo
                    have h2 := hxo.hi
                    have hex := hTg x.to.toNat (by omega)
                    have hin : inForest g l i x = (fi && endB g x.to.toNat) := by unfold inForest; rw [hgd]
                    rw [drop_cons hx, List.filter_cons] at hfo
                    conv => whnf
                    repeat ((first | refine ix (by assumption) ?_ | (refine ixn (enc := encB) x.to.toNat (by omega) hex ?_)); conv => whnf)
                    refine ⟨fun hq => ?_, fun hq => ?_⟩
                    · have hq : inForest g l i x = true := hin.trans hq
                      rw [if_pos hq] at hfo
                      rcases ho with ⟨he, rfl, rfl⟩ | ⟨q, rfl, rfl⟩
                      all_goals
                        conv => whnf
                        repeat ((first | refine ⟨gP_of ⟨by omega, by omega⟩, ?_⟩ | refine ix (by assumption) ?_ | (refine ⟨Nat.le_of_ble_eq_true rfl, fun q' => ?_⟩) | (refine ⟨(by simp; unfold AMAX; omega), fun q' => ⟨_, .here _, ?_⟩⟩)); conv => whnf)
                        refine ⟨_, _, Turn.refl _ _, _, (by omega), k + 1, o ++ [x], _, _, rfl, rfl, rfl, by omega, .inr ⟨q', ?_, rfl⟩, by simp; omega, by rw [hfo, List.append_assoc]; rfl⟩
                        rw [List.map_append]
                        first | done | rfl | (rw [he]; done) | (rw [he]; rfl)
                    · have hq : inForest g l i x = false := hin.trans hq
                      rw [if_neg (by rw [hq]; decide)] at hfo
                      conv => whnf
                      repeat (refine ⟨gP_of ⟨by omega, by omega⟩, ?_⟩; conv => whnf)
                      exact ⟨_, _, Turn.refl _ _, _, (by omega), k + 1, o, _, _, rfl, rfl, rfl, by omega, ho, by omega, hfo⟩
                  · rw [drop_nil hk2, List.filter_nil, List.nil_append] at hfo
                    conv => whnf
                    repeat (refine ⟨gP_of ⟨by omega, by omega⟩, ?_⟩; conv => whnf)
                    exact ⟨_, _, Turn.refl _ _, _, (by omega), i + 1, o, _, _, rfl, rfl, rfl, by omega, ho, by omega, hfo⟩
              · rw [drop_nil hi2, forestGo, List.append_nil, ← hfl] at hfo
                have hlr : reachL H line = (last : Int) := by
                  unfold reachL
                  rw [if_pos h0, ← hge, ← hR, hla.eq hl2]
                conv => whnf
                skip
                refine region_turn rfl mixed (Turn.trans (Turn.weak (.cons (VLe.refl _) (.cons (VLe.refl _) (.cons (VLe.refl _) (.cons (VLe.refl _) (.cons (VLe.refl _) (.cons (VLe.refl _) (.cons (VLe.refl _) (.cons (VLe.refl _) (.cons (ho.le (by decide)) (RLe.refl _))))))))))) (Turn.left (A := []) (Z := _))) ?_
                rw [← hfo]
                conv => whnf
                repeat ((first | refine QCall.k0 (ReachW H line hf hl) ?_ | refine gcall (sameEdges (forestL H line) (forestL H line) (by omega) (by omega) hff.2 hff.2) ?_ | refine gcall (worksW) ?_); conv => whnf)
                exact congrArg AV.bool (by rw [h0, hlr]; simp)
end Go.Abs.Wall.Lst

