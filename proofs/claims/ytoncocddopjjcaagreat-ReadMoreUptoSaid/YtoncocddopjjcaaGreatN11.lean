/- What is proved: small laws for the walks of this seat, and contracts of its functions. No condition but those each theorem names. -/
import Derived.Test.YtoncocddopjjcaaGreatN9
import Derived.Test.YtoncocddopjjcaaGreatN7
import Derived.Test.YtoncocddopjjcaaGreatN10
set_option maxRecDepth 100000
set_option linter.unusedVariables false
set_option linter.unusedSimpArgs false
namespace Go.Abs.Wall
open Go Go.Abs Go.Proofs
/-! ### readings that are valid -/
structure Vld where
  cost : Int
  at_ : Int
  err : Int
deriving DecidableEq
def useBad (H : Hou) (line : List Int) (w : Wrd) : Bool := decide ((line.length : Int) < w.uses.length) || !spellsM H (line.take w.uses.length) w
def validGo (H : Hou) : List Int → List Wrd → Int → Int → Vld
  | line, [], c, i => if 0 < line.length then ⟨0, i, 52⟩ else ⟨c, 0, 0⟩
  | line, w :: t, c, i => if frmErr H.lex w.form ≠ 0 then ⟨0, i, frmErr H.lex w.form⟩ else if useBad H line w = true then ⟨0, i, 51⟩ else validGo H (line.drop w.uses.length) t (c + priceM H w) (i + 1)
def validM (H : Hou) (line : List Int) (ws : List Wrd) : Vld := if lineErr H line ≠ 0 then ⟨0, 0, lineErr H line⟩ else validGo H line ws 0 0
def encVld (v : Vld) : AV := .tup [.int .i64 v.cost, .int .i64 v.at_, .int .i64 v.err]
structure WsFit (ws : List Wrd) : Prop where
  many : ws.length ≤ 1048576
  cl : ∀ w ∈ ws, w.form.clitics.length ≤ 1048576
  us : ∀ w ∈ ws, w.uses.length ≤ 1048576
  text : ∀ w ∈ ws, ∀ u ∈ w.uses, u.text.length ≤ 1048576
theorem spells_len {H : Hou} {line : List Int} {w : Wrd} (h : spellsM H line w = true) : 1 ≤ w.uses.length ∧ w.uses.length ≤ 12 ∧ line.length = w.uses.length := by
  unfold spellsM at h
  rw [Bool.and_eq_true, Bool.and_eq_true, wthn_iff, decide_eq_true_eq] at h
  omega
theorem useBad_no {H : Hou} {line : List Int} {w : Wrd} (h : useBad H line w = false) : 1 ≤ w.uses.length ∧ w.uses.length ≤ 12 ∧ w.uses.length ≤ line.length ∧ spellsM H (line.take w.uses.length) w = true := by
  unfold useBad at h
  rw [Bool.or_eq_false_iff, decide_eq_false_iff_not, Bool.not_eq_false'] at h
  have := spells_len h.2
  exact ⟨this.1, this.2.1, by omega, h.2⟩
def c46 : Cfg := ⟨[0, 1, 2, 3, 6, 7, 8, 9, 10, 11, 12, 13, 18, 20, 21, 22, 23, 33, 51, 64], [], [11], [], [(11, [0, 1, 2, 3, 4, 5, 6, 7, 8, 9, 10, 11, 12], [])], []⟩
theorem ValidW (H : Hou) (line : List Int) (ws : List Wrd) (hf : HouFit H) (hl : line.length ≤ 1048576) (hw : WsFit ws) :
    QCall Tryz.prog 46 [.agg (encHou H), .sl 1 none (ints line), .sl 4 none (ws.map encWrd)] [] (encVld (validM H line ws)) := by
  have hws := hw.many
  refine fcalls (F := Tryz.f46) c46 rfl rfl rfl mixed rfl fun X => ?_
  conv => whnf
  repeat (refine QCall.k0 (checkW H line hf (by unfold LMAX; omega)) ?_; conv => whnf)
  refine ⟨fun h1 => ?_, fun h1 => ?_⟩ <;> simp at h1
  · have he : validM H line ws = ⟨0, 0, lineErr H line⟩ := by rw [validM, if_pos h1]
    conv => whnf
    skip
    rw [he]
    exact ⟨rfl, rfl⟩
  have hL := lineOK h1
  have hfew := hL.few
  have h0 : validM H line ws = validGo H line ws 0 0 := by rw [validM, if_neg (by omega)]
  conv => whnf
  skip
  refine sloop rfl mixed [1, 2, 3, 6, 20, 21, 22] [] (fun m r h => ∃ (i : Nat) (ln : List Int) (c : Int), r = [(1, [], .sl 1 none (ints ln)), (2, [], .sl 4 none (ws.map encWrd)), (3, [], .iptr (encHou H)), (6, [], .int .i64 c), (20, [], .sl 4 none (ws.map encWrd)), (21, [], .int .i64 (ws.map encWrd).length), (22, [], .int .i64 i)] ∧ h = [] ∧ m = ws.length - i ∧ i ≤ ws.length ∧ ln.length ≤ 60 ∧ (∀ s ∈ ln, 0 ≤ s ∧ s < H.list.signs.length) ∧ 0 ≤ c ∧ c ≤ 18000 * i ∧ validM H line ws = validGo H ln (ws.drop i) c i) ?_ ?_
  · conv => whnf
    exact ⟨_, 0, line, 0, rfl, rfl, rfl, by omega, hfew, hL.signs, by omega, by omega, h0⟩
  · rintro m r h ⟨i, ln, c, rfl, rfl, rfl, hi, hll, hln, hc0, hc1, hg⟩
    conv => whnf
    refine ⟨fun hi2 => ?_, fun hi2 => ?_⟩ <;> simp at hi2
    · obtain ⟨w, hw'⟩ := get_lt hi2
      have hm := List.mem_of_getElem? hw'
      have hcl := hw.cl w hm
      have hul := hw.us w hm
      have hut := hw.text w hm
      rw [drop_cons hw', validGo] at hg
      conv => whnf
      repeat ((first | refine ix (by assumption) ?_ | refine QCall.k0 (checkForm H.lex w.form hf.lex (by unfold LMAX; omega)) ?_ | (intro (b11 : Nat)) | refine ⟨_, _, Rem.here _, ⟨Nat.le_of_ble_eq_true rfl, rfl⟩, ?_⟩); conv => whnf)
      refine ⟨fun h2 => ?_, fun h2 => ?_⟩ <;> simp at h2
      · rw [if_pos h2] at hg
        rw [hg]
        conv => whnf
        skip
        exact ⟨rfl, rfl⟩
      rw [if_neg (by simpa using h2)] at hg
      have hF := frmOK h2
      have hsp := spellsA H (ln.take w.uses.length) w hL.hou (fun s hs => hln s (List.mem_of_mem_take hs)) (by rw [List.length_take]; omega) hF hut hul
      rw [show ints (ln.take w.uses.length) = ((ints ln).take ((w.uses.map encUse).length : Int).toNat).drop (0 : Int).toNat by unfold ints; rw [List.length_map, ← List.map_take]; rfl] at hsp
      conv => whnf
      repeat ((first | (refine And.intro ?_ ?_; (focus ((conv => whnf); intro g0; have g0 := of_decide_eq_false g0; refine ⟨?_, ?_, ?_⟩ <;> omega))) | refine gcall (hsp) ?_
                     | refine And.intro (by show drawOK (opsAt Tryz.f46 _) _ = true; decide +kernel) ?_); conv => whnf)
      refine ⟨fun h3 => ?_, fun h3 => ?_⟩
      · have h3 : (decide (((ints ln).length : Int) < ((w.uses.map encUse).length : Int)) || !spellsM H (ln.take w.uses.length) w) = true := h3
        rw [ints_length, List.length_map] at h3
        have h3 : useBad H ln w = true := h3
        rw [if_pos h3] at hg
        rw [hg]
        conv => whnf
        skip
        exact ⟨rfl, rfl⟩
      · have h3 : (decide (((ints ln).length : Int) < ((w.uses.map encUse).length : Int)) || !spellsM H (ln.take w.uses.length) w) = false := h3
        rw [ints_length, List.length_map] at h3
        have h3 : useBad H ln w = false := h3
        rw [if_neg (by rw [h3]; decide)] at hg
        have hn := useBad_no h3
        have hpb := priceM_bound hL.hou (w := w)
        conv => whnf
        repeat ((first | refine ⟨gP_of ⟨by omega, by omega⟩, ?_⟩ | refine QCall.k0 (priceW H w hf.lex hL.hou (by unfold LMAX; omega) hF.entry hul) ?_ | (refine ⟨gP_of ⟨by rw [List.length_map]; omega, by rw [List.length_map, ints_length]; omega, by rw [ints_length]; omega⟩, ?_⟩)); conv => whnf)
        have hds : List.drop ((w.uses.map encUse).length : Int).toNat ((ints ln).take ((ints ln).length : Int).toNat) = ints (ln.drop w.uses.length) := by
          rw [show ((ints ln).length : Int).toNat = (ints ln).length from rfl, List.take_length, List.length_map]
          unfold ints
          rw [List.map_drop]
          rfl
        rw [hds]
        exact ⟨_, by omega, i + 1, ln.drop w.uses.length, c + priceM H w, rfl, rfl, rfl, by omega, by rw [List.length_drop]; omega, fun s hs => hln s (List.mem_of_mem_drop hs), by omega, by omega, hg⟩
    · rw [drop_nil hi2, validGo] at hg
      have hie : i = ws.length := by omega
      conv => whnf
      skip
      refine ⟨fun h2 => ?_, fun h2 => ?_⟩ <;> simp at h2
      · rw [if_pos h2] at hg
        rw [hg, hie]
        conv => whnf
        skip
        refine ⟨?_, rfl⟩
        rw [List.length_map]
        rfl
      · rw [if_neg (by simp [h2])] at hg
        rw [hg]
        conv => whnf
        skip
        exact ⟨rfl, rfl⟩
end Go.Abs.Wall
set_option maxRecDepth 100000
set_option linter.unusedVariables false
set_option linter.unusedSimpArgs false
namespace Go.Abs.Wall
open Go Go.Abs Go.Proofs
/-! ### graphs of words -/
structure EdgOK (n i : Nat) (x : Edg) : Prop where
  to : x.to = i + x.word.uses.length
  lo : (i : Int) < x.to
  hi : x.to ≤ n
  cost : 0 ≤ x.cost ∧ x.cost ≤ 18000
  fit : WrdFit x.word
structure GOK (g : List (List Edg)) : Prop where
  few : g.length ≤ 60
  many : ∀ (i : Nat) es, g[i]? = some es → es.length ≤ 2000
  edge : ∀ (i : Nat) es, g[i]? = some es → ∀ x ∈ es, EdgOK g.length i x
theorem graphM_len (H : Hou) (line : List Int) : (graphM H line).length = line.length := by simp [graphM]
theorem graphM_get {H : Hou} {line : List Int} {i : Nat} (hi : i < line.length) : (graphM H line)[i]? = some (edgsAt H line i) := by rw [graphM, List.getElem?_map, List.getElem?_range hi]; rfl
theorem growOK {H : Hou} {line : List Int} (h : growErr H line = 0) : LineOK H line ∧ sumL (graphM H line) ≤ 2000 ∧ GOK (graphM H line) := by
  unfold growErr at h
  split at h
  · rename_i h1; exact absurd h h1
  rename_i h1
  split at h
  · cases h
  rename_i h2
  have hL := lineOK (H := H) (line := line) (by simpa using h1)
  refine ⟨hL, by omega, ⟨by rw [graphM_len]; exact hL.few, fun i es hes => ?_, fun i es hes x hx => ?_⟩⟩
  · have h3 := sumL_take (g := graphM H line) (i + 1)
    rw [take_snoc hes, sumL_snoc] at h3
    omega
  · have hi : i < line.length := by have := (List.getElem?_eq_some_iff.1 hes).1; rwa [graphM_len] at this
    rw [graphM_get hi] at hes
    cases hes
    obtain ⟨ha, hb, hc⟩ := edgsAt_mem hL.hou hL.signs (by omega) x hx
    have := ha.to
    have := ha.some
    have h5 := ha.cl
    have h6 := ha.few
    exact ⟨ha.to, by omega, by rw [graphM_len]; omega, hc, ⟨by omega, by omega⟩⟩
end Go.Abs.Wall
set_option maxRecDepth 100000
set_option linter.unusedVariables false
set_option linter.unusedSimpArgs false
namespace Go.Abs.Wall
open Go Go.Abs Go.Proofs
/-! ### places that are reached -/
def encB (b : Bool) : List AV := [.bool b]
theorem encB_len : ∀ b, (encB b).length = 1 := fun _ => rfl
def markK (want : Nat → Nat → Bool) (a : Nat) : List Edg → Nat → List Bool → List Bool
  | [], _, l => l
  | x :: t, k, l => markK want a t (k + 1) (if (l.getD a false && want a k) = true then l.set x.to.toNat true else l)
def reachGo (want : Nat → Nat → Bool) : List (List Edg) → Nat → List Bool → List Bool
  | [], _, l => l
  | es :: g, i, l => reachGo want g (i + 1) (markK want i es 0 l)
def reachM (g : List (List Edg)) (want : Nat → Nat → Bool) : List Bool := reachGo want g 0 ((List.replicate (g.length + 1) false).set 0 true)
theorem markK_len (want : Nat → Nat → Bool) (a : Nat) : ∀ (es : List Edg) (k : Nat) (l : List Bool), (markK want a es k l).length = l.length
  | [], _, l => rfl
  | x :: t, k, l => by
    unfold markK
    rw [markK_len want a t]
    split <;> simp
theorem reachGo_len (want : Nat → Nat → Bool) : ∀ (g : List (List Edg)) (i : Nat) (l : List Bool), (reachGo want g i l).length = l.length
  | [], _, l => rfl
  | es :: g, i, l => by unfold reachGo; rw [reachGo_len want g, markK_len]
theorem reachM_len (g : List (List Edg)) (want : Nat → Nat → Bool) : (reachM g want).length = g.length + 1 := by unfold reachM; rw [reachGo_len]; simp
theorem getD_of {α : Type} {l : List α} {i : Nat} {x d : α} (h : l[i]? = some x) : l.getD i d = x := by rw [List.getD_eq_getElem?_getD, h]; rfl
theorem boolRow0 (n : Nat) : repC n [AV.bool false] = ((List.replicate n false).map encB).flatten := by
  rw [repC_one]
  induction n with
  | zero => rfl
  | succ n ih => rw [List.replicate_succ, List.replicate_succ, List.map_cons, List.flatten_cons, ← ih]; rfl
/-- the row of what is reached, when nobody writes it any more -/
theorem boolRow {f : FuncId} {vs : List AV} {h : Heap} {l : List Bool} {n : Nat} (hn : l.length = n) (hf : ACalls Tryz.prog f vs [] (fun v h' => ∃ b Z, v = .osl b 0 n 1 ∧ h' = (b, .vec (l.map encB).flatten) :: Z)) : QCall Tryz.prog f vs [] (.sl 1 none (l.map encB)) := by
  refine QCall.of (ACalls.frz hf ?_)
  rintro v h1 ⟨b, Z, rfl, rfl⟩
  exact ⟨b, _, Z, Z, _, .here _, FzH.refl _, fzEnc encB_len hn, VLe.refl _⟩
def wantE (pl nu : Int) (a k : Nat) : Bool := !decide ((a : Int) = pl) || !decide ((k : Int) = nu)
/-- whether the end is reached from a place -/
def endB (g : List (List Edg)) (i : Nat) : Bool := decide (restV g i ≠ -1)
theorem GOK.costs {g : List (List Edg)} (h : GOK g) : ∀ es ∈ g, ∀ x ∈ es, 0 ≤ x.cost ∧ x.cost ≤ 18000 := by
  intro es hes x hx
  obtain ⟨i, hi⟩ := List.mem_iff_getElem?.1 hes
  exact (h.edge i es hi x hx).cost
theorem GOK.rest {g : List (List Edg)} (h : GOK g) (i : Nat) (hi : i ≤ g.length) : -1 ≤ restV g i ∧ restV g i ≤ 1080000 := by
  have h1 := restT_get g i hi
  have h2 := restT_bound g h.costs _ (List.mem_of_getElem? h1)
  have := h.few
  omega
end Go.Abs.Wall
set_option maxRecDepth 100000
set_option linter.unusedVariables false
set_option linter.unusedSimpArgs false
namespace Go.Abs.Wall
open Go Go.Abs Go.Proofs
/-! ### the forest, what is certain, how far: both sides -/
def inForest (g : List (List Edg)) (R : List Bool) (i : Nat) (x : Edg) : Bool := R.getD i false && endB g x.to.toNat
def forestGo (g : List (List Edg)) (R : List Bool) : List (List Edg) → Nat → List Edg
  | [], _ => []
  | es :: t, i => es.filter (inForest g R i) ++ forestGo g R t (i + 1)
def wantAll (a k : Nat) : Bool := true
def forestG (g : List (List Edg)) : List Edg := forestGo g (reachM g wantAll) g 0
def certE (g : List (List Edg)) (i : Nat) : List Edg → Nat → List Edg
  | [], _ => []
  | x :: t, k => (if (reachM g (wantE i k)).getD g.length false = true then [] else [x]) ++ certE g i t (k + 1)
def certGo (g : List (List Edg)) : List (List Edg) → Nat → List Edg
  | [], _ => []
  | es :: t, i => certE g i es 0 ++ certGo g t (i + 1)
def certG (g : List (List Edg)) : List Edg := certGo g g 0
theorem forestGo_len (g : List (List Edg)) (R : List Bool) : ∀ (t : List (List Edg)) (i : Nat), (forestGo g R t i).length ≤ sumL t
  | [], _ => by simp [forestGo]
  | es :: t, i => by
    have h1 := forestGo_len g R t (i + 1)
    have h2 := List.length_filter_le (inForest g R i) es
    unfold forestGo
    unfold sumL at h1 ⊢
    rw [List.length_append, List.map_cons, List.sum_cons]
    omega
theorem certE_len (g : List (List Edg)) (i : Nat) : ∀ (es : List Edg) (k : Nat), (certE g i es k).length ≤ es.length
  | [], _ => by simp [certE]
  | x :: t, k => by
    have h1 := certE_len g i t (k + 1)
    unfold certE
    rw [List.length_append, List.length_cons]
    split <;> simp <;> omega
theorem certGo_len (g : List (List Edg)) : ∀ (t : List (List Edg)) (i : Nat), (certGo g t i).length ≤ sumL t
  | [], _ => by simp [certGo]
  | es :: t, i => by
    have h1 := certGo_len g t (i + 1)
    have h2 := certE_len g i es 0
    unfold certGo
    unfold sumL at h1 ⊢
    rw [List.length_append, List.map_cons, List.sum_cons]
    omega
def forestL (H : Hou) (line : List Int) : List Edg := if growErr H line = 0 then forestG (graphM H line) else []
def certErr (H : Hou) (line : List Int) : Int := if growErr H line ≠ 0 then growErr H line else if restV (graphM H line) 0 = -1 then 52 else 0
def certL (H : Hou) (line : List Int) : List Edg := if certErr H line = 0 then certG (graphM H line) else []
/-- the last place that is true -/
def lastT : List Bool → Nat → Nat → Nat
  | [], _, far => far
  | b :: t, i, far => lastT t (i + 1) (if b = true then i else far)
def reachL (H : Hou) (line : List Int) : Int := if growErr H line = 0 then lastT (reachM (graphM H line) wantAll) 0 0 else 0
end Go.Abs.Wall

