/- What is proved: small laws for the walks of this seat, and contracts of its functions. No condition but those each theorem names. -/
import Derived.Test.YtoncocddopjjcaaGreatN9
import Derived.Test.YtoncocddopjjcaaGreatN7
import Derived.Test.YtoncocddopjjcaaGreatN10
set_option maxRecDepth 100000
set_option linter.unusedVariables false
set_option linter.unusedSimpArgs false
namespace Go.Abs.Wall
open Go Go.Abs Go.Proofs
/-! ### readings that are valid -/
structure Vld where
  cost : Int
  at_ : Int
  err : Int
deriving DecidableEq
def useBad (H : Hou) (line : List Int) (w : Wrd) : Bool := decide ((line.length : Int) < w.uses.length) || !spellsM H (line.take w.uses.length) w
def validGo (H : Hou) : List Int → List Wrd → Int → Int → Vld
  | line, [], c, i => if 0 < line.length then ⟨0, i, 52⟩ else ⟨c, 0, 0⟩
  | line, w :: t, c, i => if frmErr H.lex w.form ≠ 0 then ⟨0, i, frmErr H.lex w.form⟩ else if useBad H line w = true then ⟨0, i, 51⟩ else validGo H (line.drop w.uses.length) t (c + priceM H w) (i + 1)
def validM (H : Hou) (line : List Int) (ws : List Wrd) : Vld := if lineErr H line ≠ 0 then ⟨0, 0, lineErr H line⟩ else validGo H line ws 0 0
def encVld (v : Vld) : AV := .tup [.int .i64 v.cost, .int .i64 v.at_, .int .i64 v.err]
structure WsFit (ws : List Wrd) : Prop where
  many : ws.length ≤ 1048576
  cl : ∀ w ∈ ws, w.form.clitics.length ≤ 1048576
  us : ∀ w ∈ ws, w.uses.length ≤ 1048576
  text : ∀ w ∈ ws, ∀ u ∈ w.uses, u.text.length ≤ 1048576
theorem spells_len {H : Hou} {line : List Int} {w : Wrd} (h : spellsM H line w = true) : 1 ≤ w.uses.length ∧ w.uses.length ≤ 12 ∧ line.length = w.uses.length := by
  unfold spellsM at h
  rw [Bool.and_eq_true, Bool.and_eq_true, wthn_iff, decide_eq_true_eq] at h
  omega
theorem useBad_no {H : Hou} {line : List Int} {w : Wrd} (h : useBad H line w = false) : 1 ≤ w.uses.length ∧ w.uses.length ≤ 12 ∧ w.uses.length ≤ line.length ∧ spellsM H (line.take w.uses.length) w = true := by
  unfold useBad at h
  rw [Bool.or_eq_false_iff, decide_eq_false_iff_not, Bool.not_eq_false'] at h
  have := spells_len h.2
  exact ⟨this.1, this.2.1, by omega, h.2⟩
def c46 : Cfg := ⟨[0, 1, 2, 3, 6, 7, 8, 9, 10, 11, 12, 13, 18, 20, 21, 22, 23, 33, 51, 64], [], [11], [], [(11, [0, 1, 2, 3, 4, 5, 6, 7, 8, 9, 10, 11, 12], [])], []⟩
def c47 : Cfg := ⟨[0, 1, 2, 3, 6, 7, 8, 9, 10, 11, 12, 13, 14, 15, 19, 26, 31, 43, 72, 88], [], [], [], [(11, [0, 1, 2, 3, 4, 5, 6, 7, 8], []), (15, [0, 1, 2, 3, 4, 5, 6, 7, 8, 9, 10, 11, 12, 13, 14, 15, 16, 17, 18, 19, 20], []), (17, [0, 1, 2, 3, 4, 5, 6, 7, 8], [])], []⟩
def c10 : Cfg := ⟨[0, 1, 2, 3, 6, 7, 8, 9, 10, 11, 12, 15], [], [], [], [], []⟩
theorem ValidW (H : Hou) (line : List Int) (ws : List Wrd) (hf : HouFit H) (hl : line.length ≤ 1048576) (hw : WsFit ws) :
    QCall Tryz.prog 46 [.agg (encHou H), .sl 1 none (ints line), .sl 4 none (ws.map encWrd)] [] (encVld (validM H line ws)) := by
  have hws := hw.many
  refine fcalls (F := Tryz.f46) c46 rfl rfl rfl mixed rfl fun X => ?_
  conv => whnf
  repeat (refine QCall.k0 (checkW H line hf (by unfold LMAX; omega)) ?_; conv => whnf)
  refine ⟨fun h1 => ?_, fun h1 => ?_⟩ <;> simp at h1
  · have he : validM H line ws = ⟨0, 0, lineErr H line⟩ := by rw [validM, if_pos h1]
    conv => whnf
    skip
    rw [he]
    exact ⟨rfl, rfl⟩
  have hL := lineOK h1
  have hfew := hL.few
  have h0 : validM H line ws = validGo H line ws 0 0 := by rw [validM, if_neg (by omega)]
  conv => whnf
  skip
  refine sloop rfl mixed [1, 2, 3, 6, 20, 21, 22] [] (fun m r h => ∃ (i : Nat) (ln : List Int) (c : Int), r = [(1, [], .sl 1 none (ints ln)), (2, [], .sl 4 none (ws.map encWrd)), (3, [], .iptr (encHou H)), (6, [], .int .i64 c), (20, [], .sl 4 none (ws.map encWrd)), (21, [], .int .i64 (ws.map encWrd).length), (22, [], .int .i64 i)] ∧ h = [] ∧ m = ws.length - i ∧ i ≤ ws.length ∧ ln.length ≤ 60 ∧ (∀ s ∈ ln, 0 ≤ s ∧ s < H.list.signs.length) ∧ 0 ≤ c ∧ c ≤ 18000 * i ∧ validM H line ws = validGo H ln (ws.drop i) c i) ?_ ?_
  · conv => whnf
    exact ⟨_, 0, line, 0, rfl, rfl, rfl, by omega, hfew, hL.signs, by omega, by omega, h0⟩
  · rintro m r h ⟨i, ln, c, rfl, rfl, rfl, hi, hll, hln, hc0, hc1, hg⟩
    conv => whnf
    refine ⟨fun hi2 => ?_, fun hi2 => ?_⟩ <;> simp at hi2
    · obtain ⟨w, hw'⟩ := get_lt hi2
      have hm := List.mem_of_getElem? hw'
      have hcl := hw.cl w hm
      have hul := hw.us w hm
      have hut := hw.text w hm
      rw [drop_cons hw', validGo] at hg
      conv => whnf
      repeat ((first | refine ix (by assumption) ?_ | refine QCall.k0 (checkForm H.lex w.form hf.lex (by unfold LMAX; omega)) ?_ | (intro (b11 : Nat)) | refine ⟨_, _, Rem.here _, ⟨Nat.le_of_ble_eq_true rfl, rfl⟩, ?_⟩); conv => whnf)
      refine ⟨fun h2 => ?_, fun h2 => ?_⟩ <;> simp at h2
      · rw [if_pos h2] at hg
        rw [hg]
        conv => whnf
        skip
        exact ⟨rfl, rfl⟩
      rw [if_neg (by simpa using h2)] at hg
      have hF := frmOK h2
      have hsp := spellsA H (ln.take w.uses.length) w hL.hou (fun s hs => hln s (List.mem_of_mem_take hs)) (by rw [List.length_take]; omega) hF hut hul
      rw [show ints (ln.take w.uses.length) = ((ints ln).take ((w.uses.map encUse).length : Int).toNat).drop (0 : Int).toNat by unfold ints; rw [List.length_map, ← List.map_take]; rfl] at hsp
      conv => whnf
      repeat ((first | (refine And.intro ?_ ?_; (focus ((conv => whnf); intro g0; have g0 := of_decide_eq_false g0; refine ⟨?_, ?_, ?_⟩ <;> omega))) | refine gcall (hsp) ?_
                     | refine And.intro (by show drawOK (opsAt Tryz.f46 _) _ = true; decide +kernel) ?_); conv => whnf)
      refine ⟨fun h3 => ?_, fun h3 => ?_⟩
      · have h3 : (decide (((ints ln).length : Int) < ((w.uses.map encUse).length : Int)) || !spellsM H (ln.take w.uses.length) w) = true := h3
        rw [ints_length, List.length_map] at h3
        have h3 : useBad H ln w = true := h3
        rw [if_pos h3] at hg
        rw [hg]
        conv => whnf
        skip
        exact ⟨rfl, rfl⟩
      · have h3 : (decide (((ints ln).length : Int) < ((w.uses.map encUse).length : Int)) || !spellsM H (ln.take w.uses.length) w) = false := h3
        rw [ints_length, List.length_map] at h3
        have h3 : useBad H ln w = false := h3
        rw [if_neg (by rw [h3]; decide)] at hg
        have hn := useBad_no h3
        have hpb := priceM_bound hL.hou (w := w)
        conv => whnf
        repeat ((first | refine ⟨gP_of ⟨by omega, by omega⟩, ?_⟩ | refine QCall.k0 (priceW H w hf.lex hL.hou (by unfold LMAX; omega) hF.entry hul) ?_ | (refine ⟨gP_of ⟨by rw [List.length_map]; omega, by rw [List.length_map, ints_length]; omega, by rw [ints_length]; omega⟩, ?_⟩)); conv => whnf)
        have hds : List.drop ((w.uses.map encUse).length : Int).toNat ((ints ln).take ((ints ln).length : Int).toNat) = ints (ln.drop w.uses.length) := by
          rw [show ((ints ln).length : Int).toNat = (ints ln).length from rfl, List.take_length, List.length_map]
          unfold ints
          rw [List.map_drop]
          rfl
        rw [hds]
        exact ⟨_, by omega, i + 1, ln.drop w.uses.length, c + priceM H w, rfl, rfl, rfl, by omega, by rw [List.length_drop]; omega, fun s hs => hln s (List.mem_of_mem_drop hs), by omega, by omega, hg⟩
    · rw [drop_nil hi2, validGo] at hg
      have hie : i = ws.length := by omega
      conv => whnf
      skip
      refine ⟨fun h2 => ?_, fun h2 => ?_⟩ <;> simp at h2
      · rw [if_pos h2] at hg
        rw [hg, hie]
        conv => whnf
        skip
        refine ⟨?_, rfl⟩
        rw [List.length_map]
        rfl
      · rw [if_neg (by simp [h2])] at hg
        rw [hg]
        conv => whnf
        skip
        exact ⟨rfl, rfl⟩
theorem take_mid {α : Type} {l : List α} {a n : Nat} : (l.take (a + n)).drop a = (l.drop a).take n := by
  rw [List.drop_take]
  congr 1
  omega
theorem refValid (H : Hou) (line : List Int) (ws : List Wrd) (hf : HouFit H) (hl : line.length ≤ 1048576) (hw : WsFit ws) :
    QCall Tryz.prog 47 [.agg (encHou H), .sl 1 none (ints line), .sl 4 none (ws.map encWrd)] [] (encVld (validM H line ws)) := by
  have hws := hw.many
  refine fcalls (F := Tryz.f47) c47 rfl rfl rfl mixed rfl fun X => ?_
  conv => whnf
  repeat (refine QCall.k0 (refHouse H hf) ?_; conv => whnf)
  refine ⟨fun h0 => ?_, fun h0 => ?_⟩ <;> simp at h0
  · have h1 : lineErr H line = houErr H := by rw [lineErr, if_pos h0]
    have he : validM H line ws = ⟨0, 0, houErr H⟩ := by rw [validM, h1, if_pos h0]
    conv => whnf
    skip
    rw [he]
    exact ⟨rfl, rfl⟩
  conv => whnf
  repeat (refine QCall.k0 (refLineH hf h0 (line := line) (by unfold LMAX; omega)) ?_; conv => whnf)
  refine ⟨fun h1 => ?_, fun h1 => ?_⟩ <;> simp at h1
  · have he : validM H line ws = ⟨0, 0, lineErr H line⟩ := by rw [validM, if_pos h1]
    conv => whnf
    skip
    rw [he]
    exact ⟨rfl, rfl⟩
  have hL := lineOK h1
  have hfew := hL.few
  have h0 : validM H line ws = validGo H line ws 0 0 := by rw [validM, if_neg (by omega)]
  conv => whnf
  skip
  refine sloop rfl mixed [1, 2, 3, 11, 12, 13] [] (fun m r h => ∃ (i : Nat) (a : Nat) (c : Int), r = [(1, [], .sl 1 none (ints line)), (2, [], .sl 4 none (ws.map encWrd)), (3, [], .iptr (encHou H)), (11, [], .int .i64 a), (12, [], .int .i64 c), (13, [], .int .i64 i)] ∧ h = [] ∧ m = ws.length - i ∧ i ≤ ws.length ∧ a ≤ line.length ∧ 0 ≤ c ∧ c ≤ 18000 * i ∧ validM H line ws = validGo H (line.drop a) (ws.drop i) c i) ?_ ?_
  · conv => whnf
    exact ⟨_, 0, 0, 0, rfl, rfl, rfl, by omega, by omega, by omega, by omega, h0⟩
  · rintro m r h ⟨i, a, c, rfl, rfl, rfl, hi, hal, hc0, hc1, hg⟩
    conv => whnf
    skip
    refine ⟨fun hi2 => ?_, fun hi2 => ?_⟩ <;> simp at hi2
    · obtain ⟨w, hw'⟩ := get_lt hi2
      have hm := List.mem_of_getElem? hw'
      have hcl := hw.cl w hm
      have hul := hw.us w hm
      have hut := hw.text w hm
      rw [drop_cons hw', validGo] at hg
      conv => whnf
      repeat ((first | refine ix (by assumption) ?_ | refine gcall (refForm H.lex w.form hf.lex (by unfold LMAX; omega)) ?_ | refine And.intro (by show drawOK (opsAt Tryz.f47 _) _ = true; decide +kernel) ?_); conv => whnf)
      refine ⟨fun h2 => ?_, fun h2 => ?_⟩ <;> simp at h2
      · rw [if_pos h2] at hg
        rw [hg]
        conv => whnf
        skip
        exact ⟨rfl, rfl⟩
      rw [if_neg (by simpa using h2)] at hg
      have hF := frmOK h2
      have hsp := refSpell H ((line.drop a).take w.uses.length) w hf hL.hou (fun s hs => hL.signs s (List.mem_of_mem_drop (List.mem_of_mem_take hs))) (by rw [List.length_take]; omega) hF hut hul
      rw [show ints ((line.drop a).take w.uses.length) = ((ints line).take ((a : Int) + ((w.uses.map encUse).length : Int)).toNat).drop (a : Int).toNat by
        rw [List.length_map, show ((a : Int) + (w.uses.length : Int)).toNat = a + w.uses.length by omega, ← take_mid]
        unfold ints
        rw [List.map_drop, List.map_take]
        rfl] at hsp
      conv => whnf
      repeat ((first | refine ix (by assumption) ?_ | (refine ⟨gP_of ⟨by rw [List.length_map]; omega, by rw [List.length_map]; omega⟩, ?_⟩) | (refine And.intro ?_ ?_; (focus ((conv => whnf); intro g0; have g0 := of_decide_eq_false g0; refine ⟨?_, ?_, ?_⟩ <;> omega)))
                     | refine gcall (hsp) ?_ | refine And.intro (by show drawOK (opsAt Tryz.f47 _) _ = true; decide +kernel) ?_); conv => whnf)
      refine ⟨fun h3 => ?_, fun h3 => ?_⟩
      · have h3 : (decide (((ints line).length : Int) < (a : Int) + ((w.uses.map encUse).length : Int)) || !spellsM H ((line.drop a).take w.uses.length) w) = true := h3
        rw [ints_length, List.length_map] at h3
        have h3 : useBad H (line.drop a) w = true := by
          unfold useBad
          rw [← h3, List.length_drop]
          congr 1
          rw [decide_eq_decide]
          omega
        rw [if_pos h3] at hg
        rw [hg]
        conv => whnf
        skip
        exact ⟨rfl, rfl⟩
      · have h3 : (decide (((ints line).length : Int) < (a : Int) + ((w.uses.map encUse).length : Int)) || !spellsM H ((line.drop a).take w.uses.length) w) = false := h3
        rw [ints_length, List.length_map] at h3
        have h3 : useBad H (line.drop a) w = false := by
          unfold useBad
          rw [← h3, List.length_drop]
          congr 1
          rw [decide_eq_decide]
          omega
        rw [if_neg (by rw [h3]; decide)] at hg
        have hn := useBad_no h3
        have hpb := priceM_bound hL.hou (w := w)
        have hnl := hn.2.2.1
        rw [List.length_drop] at hnl
        conv => whnf
        repeat ((first | refine ⟨gP_of ⟨by omega, by omega⟩, ?_⟩ | refine ix (by assumption) ?_ | refine gcall (refCost H w hf.lex hL.hou (by unfold LMAX; omega) hF.entry hul) ?_
                       | (refine ⟨gP_of ⟨by rw [List.length_map]; omega, by rw [List.length_map]; omega⟩, ?_⟩) | refine And.intro (by show drawOK (opsAt Tryz.f47 _) _ = true; decide +kernel) ?_); conv => whnf)
        exact ⟨_, by omega, i + 1, a + w.uses.length, c + priceM H w, by rw [List.length_map]; rfl, rfl, rfl, by omega, by omega, by omega, by omega, by rw [← List.drop_drop]; exact hg⟩
    · rw [drop_nil hi2, validGo, List.length_drop] at hg
      have hie : i = ws.length := by omega
      conv => whnf
      skip
      refine ⟨fun h2 => ?_, fun h2 => ?_⟩ <;> simp at h2
      · rw [if_pos (by omega)] at hg
        rw [hg, hie]
        conv => whnf
        skip
        refine ⟨?_, rfl⟩
        rw [List.length_map]
        rfl
      · rw [if_neg (by omega)] at hg
        rw [hg]
        conv => whnf
        skip
        exact ⟨rfl, rfl⟩
theorem readValidsL (H : Hou) (line : List Int) (ws : List Wrd) (hf : HouFit H) (hl : line.length ≤ 1048576) (hw : WsFit ws) :
    QCall Tryz.prog 10 [.agg (encHou H), .sl 1 none (ints line), .sl 4 none (ws.map encWrd)] [] (.bool true) := by
  refine fcalls (F := Tryz.f10) c10 rfl rfl rfl mixed rfl fun X => ?_
  conv => whnf
  skip
  refine ⟨fun h1 => ?_, fun h1 => ?_⟩
  · conv => whnf
    repeat (refine QCall.k0 (worksW) ?_; conv => whnf)
    exact ⟨rfl, rfl⟩
  · conv => whnf
    repeat ((first | refine QCall.k0 (ValidW H line ws hf hl hw) ?_ | refine QCall.k0 (refValid H line ws hf hl hw) ?_ | refine gcall (worksW) ?_); conv => whnf)
    refine ⟨congrArg AV.bool ?_, rfl⟩
    simp
end Go.Abs.Wall
set_option maxRecDepth 100000
set_option linter.unusedVariables false
set_option linter.unusedSimpArgs false
namespace Go.Abs.Wall
open Go Go.Abs Go.Proofs
/-! ### graphs of words -/
structure EdgOK (n i : Nat) (x : Edg) : Prop where
  to : x.to = i + x.word.uses.length
  lo : (i : Int) < x.to
  hi : x.to ≤ n
  cost : 0 ≤ x.cost ∧ x.cost ≤ 18000
  fit : WrdFit x.word
structure GOK (g : List (List Edg)) : Prop where
  few : g.length ≤ 60
  many : ∀ (i : Nat) es, g[i]? = some es → es.length ≤ 2000
  edge : ∀ (i : Nat) es, g[i]? = some es → ∀ x ∈ es, EdgOK g.length i x
theorem graphM_len (H : Hou) (line : List Int) : (graphM H line).length = line.length := by simp [graphM]
theorem graphM_get {H : Hou} {line : List Int} {i : Nat} (hi : i < line.length) : (graphM H line)[i]? = some (edgsAt H line i) := by rw [graphM, List.getElem?_map, List.getElem?_range hi]; rfl
theorem growOK {H : Hou} {line : List Int} (h : growErr H line = 0) : LineOK H line ∧ sumL (graphM H line) ≤ 2000 ∧ GOK (graphM H line) := by
  unfold growErr at h
  split at h
  · rename_i h1; exact absurd h h1
  rename_i h1
  split at h
  · cases h
  rename_i h2
  have hL := lineOK (H := H) (line := line) (by simpa using h1)
  refine ⟨hL, by omega, ⟨by rw [graphM_len]; exact hL.few, fun i es hes => ?_, fun i es hes x hx => ?_⟩⟩
  · have h3 := sumL_take (g := graphM H line) (i + 1)
    rw [take_snoc hes, sumL_snoc] at h3
    omega
  · have hi : i < line.length := by have := (List.getElem?_eq_some_iff.1 hes).1; rwa [graphM_len] at this
    rw [graphM_get hi] at hes
    cases hes
    obtain ⟨ha, hb, hc⟩ := edgsAt_mem hL.hou hL.signs (by omega) x hx
    have := ha.to
    have := ha.some
    have h5 := ha.cl
    have h6 := ha.few
    exact ⟨ha.to, by omega, by rw [graphM_len]; omega, hc, ⟨by omega, by omega⟩⟩
def graphL (H : Hou) (line : List Int) : List (List Edg) := if growErr H line = 0 then graphM H line else []
def c76 : Cfg := ⟨[0, 1, 2, 4, 5, 6, 7, 8, 9, 10, 11, 12, 16, 23, 31, 43], [], [], [], [], []⟩
def c91 : Cfg := ⟨[0, 1, 2, 6, 7, 8, 9, 19, 34, 44], [], [], [], [], []⟩
def c92 : Cfg := ⟨[0, 2, 3, 4, 5, 18, 27], [], [], [], [], []⟩
theorem refGraph (H : Hou) (line : List Int) (hf : HouFit H) (hl : line.length ≤ 1048576) :
    QCall Tryz.prog 76 [.agg (encHou H), .sl 1 none (ints line)] [] (.tup [.sl 1 none ((graphL H line).map encEdgs), .int .i64 (growErr H line)]) := by
  refine QCall.of ?_
  refine fcalls (F := Tryz.f76) c76 rfl rfl rfl mixed rfl fun X => ?_
  conv => whnf
  repeat (refine QCall.k0 (refHouse H hf) ?_; conv => whnf)
  refine ⟨fun h0 => ?_, fun h0 => ?_⟩ <;> simp at h0
  · have h1 : lineErr H line = houErr H := by rw [lineErr, if_pos h0]
    have he : growErr H line = houErr H := by rw [growErr, h1, if_pos h0]
    conv => whnf
    skip
    rw [graphL, he, if_neg h0]
    exact VLe.tup (.cons (VLe.nil (by decide)) (.cons (VLe.refl _) .nil))
  conv => whnf
  repeat (refine QCall.k0 (refLineH hf h0 (line := line) (by unfold LMAX; omega)) ?_; conv => whnf)
  refine ⟨fun h1 => ?_, fun h1 => ?_⟩ <;> simp at h1
  · have he : growErr H line = lineErr H line := by rw [growErr, if_pos h1]
    conv => whnf
    skip
    rw [graphL, he, if_neg h1]
    exact VLe.tup (.cons (VLe.nil (by decide)) (.cons (VLe.refl _) .nil))
  have hL := lineOK h1
  have hfew := hL.few
  have hg : growErr H line = if 2000 < sumL (graphM H line) then 2 else 0 := by rw [growErr, if_neg (by omega)]
  obtain ⟨G, hG⟩ : ∃ G, G = graphM H line := ⟨_, rfl⟩
  have hGl : G.length = line.length := by rw [hG]; exact graphM_len H line
  have hGi : ∀ i, i < line.length → G[i]? = some (edgsAt H line i) := fun i hi => by rw [hG]; exact graphM_get hi
  rw [← hG] at hg
  conv => whnf
  repeat (refine QCall.k0 (refTable H line hf hL) ?_; conv => whnf)
  refine tloop rfl mixed [1, 2, 8, 9, 10, 11] [] (fun m r h => ∃ (i : Nat) (v : AV) (hp : Heap), r = [(1, [], .sl 1 none (ints line)), (2, [], .iptr (encHou H)), (8, [], .sl 1 none ((line.map (usesAt H)).map encUses)), (9, [], v), (10, [], .int .i64 (sumL (G.take i) : Nat)), (11, [], .int .i64 i)] ∧ h = hp ∧ m = line.length - i ∧ i ≤ line.length ∧ sumL (G.take i) ≤ 2000 ∧ Out 1 encEdgs (G.take i) v hp) ?_ ?_
  · conv => whnf
    exact ⟨_, _, Turn.refl _ _, _, 0, _, [], by simp [sumL], rfl, rfl, by omega, by simp [sumL], .inl ⟨by simp, rfl, rfl⟩⟩
  · rintro m r h' ⟨i, v, hp, rfl, rfl, rfl, hi, hsum, ho⟩
    conv => whnf
    skip
    refine ⟨fun hi2 => ?_, fun hi2 => ?_⟩ <;> simp at hi2
    · have hgi := hGi i hi2
      have htk := take_snoc hgi
      have hsn : sumL (G.take (i + 1)) = sumL (G.take i) + (edgsAt H line i).length := by rw [htk, sumL_snoc]
      have hst := sumL_take (g := G) (i + 1)
      have hq := refWordsQ H (line.map (usesAt H)) i (tabW_line hf hL (by omega))
      by_cases hb : (edgsAt H line i).length ≤ 2000
      · rw [refWords_fits hb] at hq
        have hel : ((edgsAt H line i).map encEdg).length = (edgsAt H line i).length := List.length_map _
        by_cases hbig : 2000 < sumL (G.take (i + 1))
        · have he : growErr H line = 2 := by rw [hg, if_pos (by omega)]
          conv => whnf
          repeat ((first | refine ⟨gP_of ⟨by omega, by omega⟩, ?_⟩ | refine QCall.k0 (hq) ?_); conv => whnf)
          refine cT (by simp; omega) ?_
          conv => whnf
          skip
          rw [graphL, he, if_neg (by decide)]
          exact VLe.tup (.cons (VLe.nil (by decide)) (.cons (VLe.refl _) .nil))
        · rcases ho with ⟨he, rfl, rfl⟩ | ⟨q, rfl, rfl⟩
          all_goals
            conv => whnf
            repeat ((first | refine ⟨gP_of ⟨by omega, by omega⟩, ?_⟩ | refine QCall.k0 (hq) ?_); conv => whnf)
            refine cF (by simp; omega) ?_
            conv => whnf
            repeat ((first | refine ⟨gP_of ⟨by omega, by omega⟩, ?_⟩ | (refine ⟨Nat.le_of_ble_eq_true rfl, fun q' => ?_⟩) | (refine ⟨(by simp; unfold AMAX; omega), fun q' => ⟨_, .here _, ?_⟩⟩)); conv => whnf)
            rw [show ((sumL (G.take i) : Nat) : Int) + ((((edgsAt H line i).map encEdg).length : Nat) : Int) = ((sumL (G.take (i + 1)) : Nat) : Int) by rw [hsn, hel, Int.natCast_add]]
            refine ⟨_, _, Turn.refl _ _, _, (by omega), i + 1, _, _, rfl, rfl, rfl, by omega, by omega, .inr ⟨q', ?_, rfl⟩⟩
            rw [htk, List.map_append]
            first | done | rfl | (rw [he]; done) | (rw [he]; rfl)
      · have hlg := refWords_long (H := H) (line := line) (a := i) (by omega)
        have he : growErr H line = 2 := by rw [hg, if_pos (by omega)]
        have hel : ((refWords H (line.map (usesAt H)) i).map encEdg).length = 2001 := by rw [List.length_map, hlg]
        conv => whnf
        repeat ((first | refine ⟨gP_of ⟨by omega, by omega⟩, ?_⟩ | refine QCall.k0 (hq) ?_); conv => whnf)
        refine cT (by simp only [decide_eq_true_eq]; omega) ?_
        conv => whnf
        skip
        rw [graphL, he, if_neg (by decide)]
        exact VLe.tup (.cons (VLe.nil (by decide)) (.cons (VLe.refl _) .nil))
    · rw [List.take_of_length_le (by omega)] at hsum ho
      have he : growErr H line = 0 := by rw [hg, if_neg (by omega)]
      conv => whnf
      skip
      rw [graphL, he, if_pos rfl, ← hG]
      exact VLe.tup (.cons (ho.le (by decide)) (.cons (VLe.refl _) .nil))
end Go.Abs.Wall
set_option maxRecDepth 100000
set_option linter.unusedVariables false
set_option linter.unusedSimpArgs false
namespace Go.Abs.Wall
open Go Go.Abs Go.Proofs
/-! ### places that are reached -/
def encB (b : Bool) : List AV := [.bool b]
theorem encB_len : ∀ b, (encB b).length = 1 := fun _ => rfl
def markK (want : Nat → Nat → Bool) (a : Nat) : List Edg → Nat → List Bool → List Bool
  | [], _, l => l
  | x :: t, k, l => markK want a t (k + 1) (if (l.getD a false && want a k) = true then l.set x.to.toNat true else l)
def reachGo (want : Nat → Nat → Bool) : List (List Edg) → Nat → List Bool → List Bool
  | [], _, l => l
  | es :: g, i, l => reachGo want g (i + 1) (markK want i es 0 l)
def reachM (g : List (List Edg)) (want : Nat → Nat → Bool) : List Bool := reachGo want g 0 ((List.replicate (g.length + 1) false).set 0 true)
theorem markK_len (want : Nat → Nat → Bool) (a : Nat) : ∀ (es : List Edg) (k : Nat) (l : List Bool), (markK want a es k l).length = l.length
  | [], _, l => rfl
  | x :: t, k, l => by
    unfold markK
    rw [markK_len want a t]
    split <;> simp
theorem reachGo_len (want : Nat → Nat → Bool) : ∀ (g : List (List Edg)) (i : Nat) (l : List Bool), (reachGo want g i l).length = l.length
  | [], _, l => rfl
  | es :: g, i, l => by unfold reachGo; rw [reachGo_len want g, markK_len]
theorem reachM_len (g : List (List Edg)) (want : Nat → Nat → Bool) : (reachM g want).length = g.length + 1 := by unfold reachM; rw [reachGo_len]; simp
theorem markK_off {want : Nat → Nat → Bool} {a : Nat} : ∀ {es : List Edg} {k : Nat} {l : List Bool}, l.getD a false = false → markK want a es k l = l
  | [], _, l, _ => rfl
  | x :: t, k, l, h => by
    unfold markK
    rw [if_neg (by rw [h]; simp)]
    exact markK_off h
theorem getD_of {α : Type} {l : List α} {i : Nat} {x d : α} (h : l[i]? = some x) : l.getD i d = x := by rw [List.getD_eq_getElem?_getD, h]; rfl
theorem boolRow0 (n : Nat) : repC n [AV.bool false] = ((List.replicate n false).map encB).flatten := by
  rw [repC_one]
  induction n with
  | zero => rfl
  | succ n ih => rw [List.replicate_succ, List.replicate_succ, List.map_cons, List.flatten_cons, ← ih]; rfl
/-- the row of what is reached, when nobody writes it any more -/
theorem boolRow {f : FuncId} {vs : List AV} {h : Heap} {l : List Bool} {n : Nat} (hn : l.length = n) (hf : ACalls Tryz.prog f vs [] (fun v h' => ∃ b Z, v = .osl b 0 n 1 ∧ h' = (b, .vec (l.map encB).flatten) :: Z)) : QCall Tryz.prog f vs [] (.sl 1 none (l.map encB)) := by
  refine QCall.of (ACalls.frz hf ?_)
  rintro v h1 ⟨b, Z, rfl, rfl⟩
  exact ⟨b, _, Z, Z, _, .here _, FzH.refl _, fzEnc encB_len hn, VLe.refl _⟩
def wantE (pl nu : Int) (a k : Nat) : Bool := !decide ((a : Int) = pl) || !decide ((k : Int) = nu)
theorem refReached (g : List (List Edg)) (pl nu : Int) (hg : GOK g) : QCall Tryz.prog 91 [.sl 1 none (g.map encEdgs), .int .i64 pl, .int .i64 nu] [] (.sl 1 none ((reachM g (wantE pl nu)).map encB)) := by
  have hfew := hg.few
  refine boolRow (h := []) (reachM_len g _) ?_
  refine fcalls (F := Tryz.f91) c91 rfl rfl rfl mixed rfl fun X => ?_
  conv => whnf
  repeat ((first | (refine ⟨gP_of ⟨by rw [List.length_map]; omega, by rw [List.length_map]; omega⟩, ?_⟩) | (refine ⟨⟨rfl, by rw [List.length_map]; omega, by rw [List.length_map]; omega⟩, fun b => ?_⟩)); conv => whnf)
  rw [boolRow0, show (((g.map encEdgs).length : Int) + 1).toNat = g.length + 1 by rw [List.length_map]; omega]
  repeat ((first | (refine ixo (i := 0) (by omega) ?_) | (refine stE true (by decide) encB_len (i := 0) (by simp) (Nat.zero_add _) rfl (.here _) ?_)); conv => whnf)
  obtain ⟨l0, hl0⟩ : ∃ l, l = (List.replicate (g.length + 1) false).set 0 true := ⟨_, rfl⟩
  have hrm : reachM g (wantE pl nu) = reachGo (wantE pl nu) g 0 l0 := by rw [hl0]; rfl
  rw [← hl0, hrm]
  refine sloop rfl mixed [0, 1, 2, 7, 8] [] (fun m r h => ∃ (i : Nat) (l : List Bool), r = [(0, [], .sl 1 none (g.map encEdgs)), (1, [], .int .i64 pl), (2, [], .int .i64 nu), (7, [], .osl b 0 (g.length + 1) 1), (8, [], .int .i64 i)] ∧ h = [(b, .vec (l.map encB).flatten)] ∧ m = g.length - i ∧ i ≤ g.length ∧ l.length = g.length + 1 ∧ reachGo (wantE pl nu) g 0 l0 = reachGo (wantE pl nu) (g.drop i) i l) ?_ ?_
  · conv => whnf
    exact ⟨_, 0, l0, rfl, rfl, rfl, by omega, by rw [hl0]; simp, rfl⟩
  · rintro m r h ⟨i, l, rfl, rfl, rfl, hi, hl, hgo⟩
    conv => whnf
    skip
    refine ⟨fun hi2 => ?_, fun hi2 => ?_⟩ <;> simp at hi2
    · obtain ⟨es, hes⟩ := get_lt hi2
      have hmany := hg.many i es hes
      rw [drop_cons hes, reachGo] at hgo
      conv => whnf
      skip
      refine sloop rfl mixed [0, 1, 2, 7, 8, 9] [] (fun m r h => ∃ (k : Nat) (l : List Bool), r = [(0, [], .sl 1 none (g.map encEdgs)), (1, [], .int .i64 pl), (2, [], .int .i64 nu), (7, [], .osl b 0 (g.length + 1) 1), (8, [], .int .i64 i), (9, [], .int .i64 k)] ∧ h = [(b, .vec (l.map encB).flatten)] ∧ m = es.length - k ∧ k ≤ es.length ∧ l.length = g.length + 1 ∧ reachGo (wantE pl nu) g 0 l0 = reachGo (wantE pl nu) (g.drop (i + 1)) (i + 1) (markK (wantE pl nu) i (es.drop k) k l)) ?_ ?_
      · conv => whnf
        exact ⟨_, 0, l, rfl, rfl, rfl, by omega, hl, hgo⟩
      · clear hgo hl
        rintro m r h ⟨k, l, rfl, rfl, rfl, hk, hl, hgo⟩
        obtain ⟨li, hli⟩ := get_lt (l := l) (i := i) (by omega)
        conv => whnf
        repeat ((first | refine ix (by assumption) ?_ | (refine ixo (i := i) (by omega) ?_) | (refine ldE encB_len (.head _) (Nat.zero_add _) hli ?_)); conv => whnf)
        have hgd := getD_of (d := false) hli
        refine ⟨fun hc => ?_, fun hc => ?_⟩
        · have hc : (decide ((k : Int) < ((es.map encEdg).length : Int)) && li) = true := hc
          rw [List.length_map, Bool.and_eq_true, decide_eq_true_eq] at hc
          obtain ⟨x, hx⟩ := get_lt (l := es) (i := k) (by omega)
          have hxo := hg.edge i es hes x (List.mem_of_getElem? hx)
          have h1 := hxo.lo
          have h2 := hxo.hi
          rw [drop_cons hx, markK, hgd, hc.2, Bool.true_and] at hgo
          conv => whnf
          skip
          refine ⟨fun hw => ?_, fun hw => ?_⟩
          · have hw : wantE pl nu i k = true := hw
            rw [if_pos hw] at hgo
            conv => whnf
            repeat ((first | refine ⟨gP_of ⟨by omega, by omega⟩, ?_⟩ | refine ix (by assumption) ?_ | (refine ⟨x.to.toNat, gP_of ⟨by omega, by omega⟩, ?_⟩) | (refine stE true (by decide) encB_len (i := x.to.toNat) (by omega) (Nat.zero_add _) rfl (.here _) ?_)); conv => whnf)
            exact ⟨_, by omega, k + 1, _, rfl, rfl, rfl, by omega, by rw [List.length_set]; exact hl, hgo⟩
          · have hw : wantE pl nu i k = false := hw
            rw [if_neg (by rw [hw]; decide)] at hgo
            conv => whnf
            repeat (refine ⟨gP_of ⟨by omega, by omega⟩, ?_⟩; conv => whnf)
            exact ⟨_, by omega, k + 1, _, rfl, rfl, rfl, by omega, hl, hgo⟩
        · have hc : (decide ((k : Int) < ((es.map encEdg).length : Int)) && li) = false := hc
          rw [List.length_map, Bool.and_eq_false_iff, decide_eq_false_iff_not] at hc
          have hm : markK (wantE pl nu) i (es.drop k) k l = l := by
            rcases hc with hc | hc
            · rw [drop_nil (by omega)]; rfl
            · exact markK_off (by rw [hgd, hc])
          rw [hm] at hgo
          conv => whnf
          repeat (refine ⟨gP_of ⟨by omega, by omega⟩, ?_⟩; conv => whnf)
          exact ⟨_, by omega, i + 1, _, rfl, rfl, rfl, by omega, hl, hgo⟩
    · rw [drop_nil hi2, reachGo] at hgo
      conv => whnf
      skip
      exact ⟨b, [], rfl, by rw [hgo]⟩
/-- whether the end is reached from a place -/
def endB (g : List (List Edg)) (i : Nat) : Bool := decide (restV g i ≠ -1)
theorem edgeStep_some {q cur cost : Int} (h1 : -1 ≤ q) (h2 : -1 ≤ cur) (h3 : 0 ≤ cost) : decide (edgeStep q cur cost ≠ -1) = (decide (cur ≠ -1) || decide (q ≠ -1)) := by
  unfold edgeStep
  rw [Bool.eq_iff_iff]
  split
  · rename_i h
    simp at h ⊢
    omega
  · rename_i h
    simp at h ⊢
    omega
theorem restV_cons {g : List (List Edg)} {i : Nat} {es : List Edg} (h : g[i]? = some es) : restV g i = es.foldl (edgeR (restT (g.drop (i + 1)))) (-1) := by
  unfold restV
  rw [drop_cons h]; rfl
theorem edgeR_eq {g : List (List Edg)} {i : Nat} {x : Edg} (hx : EdgOK g.length i x) (r : Int) : edgeR (restT (g.drop (i + 1))) r x = edgeStep (restV g x.to.toNat) r x.cost := by
  have h1 := hx.lo; have h2 := hx.hi; have h3 := hx.to
  unfold edgeR
  congr 1
  have h4 := restT_get (g.drop (i + 1)) (x.word.uses.length - 1) (by rw [List.length_drop]; omega)
  rw [restV_drop, show i + 1 + (x.word.uses.length - 1) = x.to.toNat by omega] at h4
  rw [List.getD_eq_getElem?_getD, h4]
  rfl
theorem GOK.costs {g : List (List Edg)} (h : GOK g) : ∀ es ∈ g, ∀ x ∈ es, 0 ≤ x.cost ∧ x.cost ≤ 18000 := by
  intro es hes x hx
  obtain ⟨i, hi⟩ := List.mem_iff_getElem?.1 hes
  exact (h.edge i es hi x hx).cost
theorem GOK.rest {g : List (List Edg)} (h : GOK g) (i : Nat) (hi : i ≤ g.length) : -1 ≤ restV g i ∧ restV g i ≤ 1080000 := by
  have h1 := restT_get g i hi
  have h2 := restT_bound g h.costs _ (List.mem_of_getElem? h1)
  have := h.few
  omega
theorem foldE_bound {g : List (List Edg)} (hg : GOK g) {i : Nat} {es : List Edg} (hes : g[i]? = some es) (k : Nat) : -1 ≤ (es.take k).foldl (edgeR (restT (g.drop (i + 1)))) (-1) ∧ (es.take k).foldl (edgeR (restT (g.drop (i + 1)))) (-1) ≤ 1200000 := by
  have hb := restT_bound (g.drop (i + 1)) fun e he => hg.costs e (List.mem_of_mem_drop he)
  have hf := hg.few
  have := foldR_bound (B := 1080000) (by decide) (fun v hv => by have := hb v hv; rw [List.length_drop] at this; omega) (es.take k) (-1) (by decide) (by decide) (fun x hx => (hg.edge i es hes x (List.mem_of_mem_take hx)).cost)
  omega
theorem rowsF_enc (n : Nat) (f : Nat → Bool) : rowsF n (fun j => .bool (f j)) = ((((List.range n).map f)).map encB).flatten := by
  unfold rowsF
  induction n with
  | zero => rfl
  | succ n ih =>
    rw [List.range_succ, List.map_append, List.map_append, List.map_append, List.flatten_append, ← ih]
    rfl
theorem refEndsG (g : List (List Edg)) (hg : GOK g) : QCall Tryz.prog 92 [.sl 1 none (g.map encEdgs)] [] (.sl 1 none (((List.range (g.length + 1)).map (endB g)).map encB)) := by
  have hfew := hg.few
  refine boolRow (h := []) (n := g.length + 1) (by simp) ?_
  refine ACalls.mono (R := fun v h' => ∃ b, v = .osl b 0 (g.length + 1) 1 ∧ h' = [(b, .vec (rowsF (g.length + 1) fun j => .bool (endB g j)))]) ?_ ?_
  · rintro v h1 ⟨b, rfl, rfl⟩
    exact ⟨b, [], rfl, by rw [rowsF_enc]⟩
  refine fcalls (F := Tryz.f92) c92 rfl rfl rfl mixed rfl fun X => ?_
  conv => whnf
  repeat ((first | (refine ⟨gP_of ⟨by rw [List.length_map]; omega, by rw [List.length_map]; omega⟩, ?_⟩) | (refine ⟨⟨rfl, by rw [List.length_map]; omega, by rw [List.length_map]; omega⟩, fun b => ?_⟩)); conv => whnf)
  rw [show (((g.map encEdgs).length : Int) + 1).toNat = g.length + 1 by rw [List.length_map]; omega, show repC (g.length + 1) [AV.bool false] = rowsF (g.length + 1) (fun _ => .bool false) from repC_F _ _]
  repeat ((first | (refine ⟨g.length, gP_of ⟨by rw [List.length_map], by omega⟩, ?_⟩) | (refine stoF ?_ (.here _) ?_; (focus (show 0 + g.length * 1 < g.length + 1; omega)))
                 | (refine ⟨gP_of ⟨by rw [List.length_map]; omega, by rw [List.length_map]; omega⟩, ?_⟩)); conv => whnf)
  rw [show rowsF (g.length + 1) (fun j => if j = 0 + g.length * [AV.bool false].length then AV.bool true else .bool false) = rowsF (g.length + 1) (fun j => .bool (decide (g.length ≤ j) && endB g j)) from rowsF_congr fun j hj => by
    by_cases h : j = g.length
    · rw [if_pos (show j = 0 + g.length * [AV.bool false].length by simp; omega), h, decide_eq_true (Nat.le_refl _), Bool.true_and, endB, restV_end]; rfl
    · rw [if_neg (show ¬ j = 0 + g.length * [AV.bool false].length by simp; omega), decide_eq_false (by omega), Bool.false_and]]
  refine sloop rfl mixed [0, 3, 4] [] (fun m r h => ∃ (a : Nat) (c : Int), r = [(0, [], .sl 1 none (g.map encEdgs)), (3, [], .osl b 0 (g.length + 1) 1), (4, [], .int .i64 c)] ∧ h = [(b, .vec (rowsF (g.length + 1) fun j => .bool (decide (a ≤ j) && endB g j)))] ∧ m = a ∧ c = (a : Int) - 1 ∧ a ≤ g.length) ?_ ?_
  · conv => whnf
    exact ⟨_, g.length, _, rfl, rfl, rfl, by rw [List.length_map], by omega⟩
  · rintro a r h ⟨a', c, rfl, rfl, rfl, hca, ha⟩
    conv => whnf
    refine ⟨fun hi3 => ?_, fun hi3 => ?_⟩ <;> simp at hi3
    · obtain ⟨d, rfl⟩ : ∃ d, a = d + 1 := ⟨a - 1, by omega⟩
      have hcd : c = (d : Int) := by omega
      subst hcd
      obtain ⟨es, hes⟩ := get_lt (l := g) (i := d) (by omega)
      have hmany := hg.many d es hes
      have hrc := restV_cons hes
      rw [show (rowsF (g.length + 1) fun j => AV.bool (decide (d + 1 ≤ j) && endB g j)) = rowsF (g.length + 1) (fun j => .bool (if j = d then decide ((es.take 0).foldl (edgeR (restT (g.drop (d + 1)))) (-1) ≠ -1) else decide (d + 1 ≤ j) && endB g j)) from rowsF_congr fun j hj => by
        by_cases h : j = d
        · rw [if_pos h, decide_eq_false (by omega)]; simp
        · rw [if_neg h]]
      conv => whnf
      skip
      refine sloop rfl mixed [0, 3, 4, 5] [] (fun m r h => ∃ (k : Nat), r = [(0, [], .sl 1 none (g.map encEdgs)), (3, [], .osl b 0 (g.length + 1) 1), (4, [], .int .i64 d), (5, [], .int .i64 k)] ∧ h = [(b, .vec (rowsF (g.length + 1) (fun j => .bool (if j = d then decide ((es.take k).foldl (edgeR (restT (g.drop (d + 1)))) (-1) ≠ -1) else decide (d + 1 ≤ j) && endB g j))))] ∧ m = es.length - k ∧ k ≤ es.length) ?_ ?_
      · conv => whnf
        exact ⟨_, 0, rfl, rfl, rfl, by omega⟩
      · rintro m r h ⟨k, rfl, rfl, rfl, hk⟩
        conv => whnf
        repeat (refine ix (by assumption) ?_; conv => whnf)
        refine ⟨fun hk2 => ?_, fun hk2 => ?_⟩ <;> simp at hk2
        · obtain ⟨x, hx⟩ := get_lt hk2
          have hxo := hg.edge d es hes x (List.mem_of_getElem? hx)
          have h1 := hxo.lo
          have h2 := hxo.hi
          have hrt := hg.rest x.to.toNat (by omega)
          have hcb := foldE_bound hg hes k
          obtain ⟨cur, hcur⟩ : ∃ cur, cur = (es.take k).foldl (edgeR (restT (g.drop (d + 1)))) (-1) := ⟨_, rfl⟩
          have hnx : (es.take (k + 1)).foldl (edgeR (restT (g.drop (d + 1)))) (-1) = edgeStep (restV g x.to.toNat) cur x.cost := by
            rw [take_snoc hx, List.foldl_append, ← hcur]
            exact edgeR_eq hxo cur
          rw [← hcur] at hcb
          have hst := edgeStep_some hrt.1 hcb.1 hxo.cost.1
          have hq1 : (fun j => AV.bool (if j = d then decide (cur ≠ -1) else decide (d + 1 ≤ j) && endB g j)) (0 + d * 1) = .bool (decide (cur ≠ -1)) := by
            show AV.bool (if 0 + d * 1 = d then _ else _) = _
            rw [if_pos (by omega)]
          have hq2 : (fun j => AV.bool (if j = d then decide (cur ≠ -1) else decide (d + 1 ≤ j) && endB g j)) (0 + x.to.toNat * 1) = .bool (endB g x.to.toNat) := by
            show AV.bool (if 0 + x.to.toNat * 1 = d then _ else _) = _
            rw [if_neg (by omega), decide_eq_true (by omega), Bool.true_and, Nat.zero_add, Nat.mul_one]
          rw [← hcur]
          conv => whnf
          repeat ((first | refine ⟨gP_of ⟨by omega, by omega⟩, ?_⟩ | refine ix (by assumption) ?_ | (refine ixo (i := d) (by omega) ?_) | (refine ⟨x.to.toNat, gP_of ⟨by omega, by omega⟩, ?_⟩)
                         | (refine ldoF (.bool (decide (cur ≠ -1))) (.head _) rfl (by omega) hq1 ?_) | (refine ldoF (.bool (endB g x.to.toNat)) (.head _) rfl (by omega) hq2 ?_)
                         | (refine stoF ?_ (.here _) ?_; (focus omega))); conv => whnf)
          refine ⟨_, by omega, k + 1, rfl, ?_, rfl, by omega⟩
          rw [hnx]
          refine congrArg (fun z => [(b, Ob.vec z)]) (rowsF_congr fun j hj => ?_)
          by_cases h : j = d
          · rw [if_pos (by omega), if_pos h, hst]; rfl
          · rw [if_neg (by omega), if_neg h, if_neg h]
        · rw [List.take_of_length_le hk2, ← hrc, show rowsF (g.length + 1) (fun j => AV.bool (if j = d then decide (restV g d ≠ -1) else decide (d + 1 ≤ j) && endB g j)) = rowsF (g.length + 1) (fun j => .bool (decide (d ≤ j) && endB g j)) from rowsF_congr fun j hj => by
            by_cases h : j = d
            · rw [if_pos h, h, decide_eq_true (Nat.le_refl _), Bool.true_and]; rfl
            · rw [if_neg h]
              by_cases h2 : d ≤ j
              · rw [decide_eq_true (show d + 1 ≤ j by omega), decide_eq_true h2]
              · rw [decide_eq_false (show ¬ d + 1 ≤ j by omega), decide_eq_false h2]]
          conv => whnf
          repeat (refine ⟨gP_of ⟨by omega, by omega⟩, ?_⟩; conv => whnf)
          exact ⟨_, by omega, d, _, rfl, rfl, rfl, rfl, by omega⟩
    · have : a = 0 := by omega
      subst this
      conv => whnf
      skip
      refine ⟨b, rfl, ?_⟩
      refine congrArg (fun z => [(b, Ob.vec z)]) (rowsF_congr fun j hj => ?_)
      rw [decide_eq_true (Nat.zero_le _), Bool.true_and]
end Go.Abs.Wall
set_option maxRecDepth 100000
set_option linter.unusedVariables false
set_option linter.unusedSimpArgs false
namespace Go.Abs.Wall
open Go Go.Abs Go.Proofs
/-! ### the forest, what is certain, how far: both sides -/
def inForest (g : List (List Edg)) (R : List Bool) (i : Nat) (x : Edg) : Bool := R.getD i false && endB g x.to.toNat
def forestGo (g : List (List Edg)) (R : List Bool) : List (List Edg) → Nat → List Edg
  | [], _ => []
  | es :: t, i => es.filter (inForest g R i) ++ forestGo g R t (i + 1)
def wantAll (a k : Nat) : Bool := true
def forestG (g : List (List Edg)) : List Edg := forestGo g (reachM g wantAll) g 0
def certE (g : List (List Edg)) (i : Nat) : List Edg → Nat → List Edg
  | [], _ => []
  | x :: t, k => (if (reachM g (wantE i k)).getD g.length false = true then [] else [x]) ++ certE g i t (k + 1)
def certGo (g : List (List Edg)) : List (List Edg) → Nat → List Edg
  | [], _ => []
  | es :: t, i => certE g i es 0 ++ certGo g t (i + 1)
def certG (g : List (List Edg)) : List Edg := certGo g g 0
theorem wantE_all : wantE (-1) (-1) = wantAll := by
  funext a k
  unfold wantE wantAll
  rw [decide_eq_false (by omega)]
  rfl
theorem forestGo_len (g : List (List Edg)) (R : List Bool) : ∀ (t : List (List Edg)) (i : Nat), (forestGo g R t i).length ≤ sumL t
  | [], _ => by simp [forestGo]
  | es :: t, i => by
    have h1 := forestGo_len g R t (i + 1)
    have h2 := List.length_filter_le (inForest g R i) es
    unfold forestGo
    unfold sumL at h1 ⊢
    rw [List.length_append, List.map_cons, List.sum_cons]
    omega
theorem certE_len (g : List (List Edg)) (i : Nat) : ∀ (es : List Edg) (k : Nat), (certE g i es k).length ≤ es.length
  | [], _ => by simp [certE]
  | x :: t, k => by
    have h1 := certE_len g i t (k + 1)
    unfold certE
    rw [List.length_append, List.length_cons]
    split <;> simp <;> omega
theorem certGo_len (g : List (List Edg)) : ∀ (t : List (List Edg)) (i : Nat), (certGo g t i).length ≤ sumL t
  | [], _ => by simp [certGo]
  | es :: t, i => by
    have h1 := certGo_len g t (i + 1)
    have h2 := certE_len g i es 0
    unfold certGo
    unfold sumL at h1 ⊢
    rw [List.length_append, List.map_cons, List.sum_cons]
    omega
def forestL (H : Hou) (line : List Int) : List Edg := if growErr H line = 0 then forestG (graphM H line) else []
def certErr (H : Hou) (line : List Int) : Int := if growErr H line ≠ 0 then growErr H line else if restV (graphM H line) 0 = -1 then 52 else 0
def certL (H : Hou) (line : List Int) : List Edg := if certErr H line = 0 then certG (graphM H line) else []
/-- the last place that is true -/
def lastT : List Bool → Nat → Nat → Nat
  | [], _, far => far
  | b :: t, i, far => lastT t (i + 1) (if b = true then i else far)
def reachL (H : Hou) (line : List Int) : Int := if growErr H line = 0 then lastT (reachM (graphM H line) wantAll) 0 0 else 0
def c51 : Cfg := ⟨[0, 1, 2, 4, 5, 6, 7, 8, 9, 10, 11, 12, 20, 29, 38, 57], [], [], [], [], []⟩
def c52 : Cfg := ⟨[0, 1, 2, 4, 5, 6, 7, 8, 9, 10, 18, 24, 28, 37, 48], [], [], [], [], []⟩
def c54 : Cfg := ⟨[0, 1, 2, 4, 5, 6, 7, 8, 9, 10, 18, 25, 31], [], [], [], [], []⟩
theorem refForest (H : Hou) (line : List Int) (hf : HouFit H) (hl : line.length ≤ 1048576) :
    QCall Tryz.prog 51 [.agg (encHou H), .sl 1 none (ints line)] [] (.tup [.sl 7 none ((forestL H line).map encEdg), .int .i64 (growErr H line)]) := by
  refine QCall.of ?_
  refine fcalls (F := Tryz.f51) c51 rfl rfl rfl mixed rfl fun X => ?_
  conv => whnf
  repeat (refine QCall.k0 (refGraph H line hf hl) ?_; conv => whnf)
  refine ⟨fun h0 => ?_, fun h0 => ?_⟩ <;> simp at h0
  · conv => whnf
    skip
    rw [forestL, if_neg h0]
    exact VLe.tup (.cons (VLe.nil (by decide)) (.cons (VLe.refl _) .nil))
  obtain ⟨hL, hsum, hg⟩ := growOK h0
  obtain ⟨g, hge⟩ : ∃ g, g = graphM H line := ⟨_, rfl⟩
  have hgl : graphL H line = g := by rw [graphL, if_pos h0, hge]
  have hfl : forestL H line = forestGo g (reachM g wantAll) g 0 := by rw [forestL, if_pos h0, hge]; rfl
  rw [← hge] at hg hsum
  rw [hgl, hfl, h0]
  have hfew := hg.few
  have hre := refReached g (-1) (-1) hg
  rw [wantE_all] at hre
  obtain ⟨R, hR⟩ : ∃ R, R = reachM g wantAll := ⟨_, rfl⟩
  have hRl : R.length = g.length + 1 := by rw [hR]; exact reachM_len g _
  rw [← hR] at hre
  rw [← hR]
  have htot := forestGo_len g R g 0
  conv => whnf
  repeat ((first | refine QCall.k0 (hre) ?_ | refine QCall.k0 (refEndsG g hg) ?_); conv => whnf)
  refine tloop rfl mixed [6, 8, 9, 10, 11] [] (fun m r h => ∃ (i : Nat) (o : List Edg) (v : AV) (hp : Heap), r = [(6, [], .sl 1 none (g.map encEdgs)), (8, [], .sl 1 none (R.map encB)), (9, [], .sl 1 none (((List.range (g.length + 1)).map (endB g)).map encB)), (10, [], v), (11, [], .int .i64 i)] ∧ h = hp ∧ m = g.length - i ∧ i ≤ g.length ∧ Out 7 encEdg o v hp ∧ o.length ≤ 2000 * i ∧ forestGo g R g 0 = o ++ forestGo g R (g.drop i) i) ?_ ?_
  · conv => whnf
    exact ⟨_, _, Turn.refl _ _, _, 0, [], _, _, rfl, rfl, rfl, by omega, .inl ⟨rfl, rfl, rfl⟩, by simp, rfl⟩
  · rintro m r h' ⟨i, o, v, hp, rfl, rfl, rfl, hi, ho, hol, hfo⟩
    conv => whnf
    skip
    refine ⟨fun hi2 => ?_, fun hi2 => ?_⟩ <;> simp at hi2
    · obtain ⟨es, hes⟩ := get_lt hi2
      have hmany := hg.many i es hes
      rw [drop_cons hes, forestGo] at hfo
      obtain ⟨fi, hfi⟩ := get_lt (l := R) (i := i) (by omega)
      have hgd := getD_of (d := false) hfi
      conv => whnf
      skip
      refine tloop rfl mixed [6, 8, 9, 10, 11, 12] [] (fun m r h => ∃ (k : Nat) (o : List Edg) (v : AV) (hp : Heap), r = [(6, [], .sl 1 none (g.map encEdgs)), (8, [], .sl 1 none (R.map encB)), (9, [], .sl 1 none (((List.range (g.length + 1)).map (endB g)).map encB)), (10, [], v), (11, [], .int .i64 i), (12, [], .int .i64 k)] ∧ h = hp ∧ m = es.length - k ∧ k ≤ es.length ∧ Out 7 encEdg o v hp ∧ o.length ≤ 2000 * i + k ∧ forestGo g R g 0 = o ++ ((es.drop k).filter (inForest g R i) ++ forestGo g R (g.drop (i + 1)) (i + 1))) ?_ ?_
      · conv => whnf
        exact ⟨_, _, Turn.refl _ _, _, 0, o, _, _, rfl, rfl, rfl, by omega, ho, by omega, hfo⟩
      · clear hfo hol ho
        rintro m r h' ⟨k, o, v, hp, rfl, rfl, rfl, hk, ho, hol, hfo⟩
        conv => whnf
        repeat (refine ix (by assumption) ?_; conv => whnf)
        refine ⟨fun hk2 => ?_, fun hk2 => ?_⟩ <;> simp at hk2
        · obtain ⟨x, hx⟩ := get_lt hk2
          have hxo := hg.edge i es hes x (List.mem_of_getElem? hx)
          have h1 := hxo.lo
          have h2 := hxo.hi
          have hex : ((List.range (g.length + 1)).map (endB g))[x.to.toNat]? = some (endB g x.to.toNat) := by rw [List.getElem?_map, List.getElem?_range (by omega)]; rfl
          have hin : inForest g R i x = (fi && endB g x.to.toNat) := by unfold inForest; rw [hgd]
          rw [drop_cons hx, List.filter_cons] at hfo
          conv => whnf
          repeat ((first | refine ix (by assumption) ?_ | (refine ixn (enc := encB) x.to.toNat (by omega) hex ?_)); conv => whnf)
          refine ⟨fun hq => ?_, fun hq => ?_⟩
          · have hq : inForest g R i x = true := hin.trans hq
            rw [if_pos hq] at hfo
            rcases ho with ⟨he, rfl, rfl⟩ | ⟨q, rfl, rfl⟩
            all_goals
              conv => whnf
              repeat ((first | refine ⟨gP_of ⟨by omega, by omega⟩, ?_⟩ | refine ix (by assumption) ?_ | (refine ⟨Nat.le_of_ble_eq_true rfl, fun q' => ?_⟩) | (refine ⟨(by simp; unfold AMAX; omega), fun q' => ⟨_, .here _, ?_⟩⟩)); conv => whnf)
              refine ⟨_, _, Turn.refl _ _, _, (by omega), k + 1, o ++ [x], _, _, rfl, rfl, rfl, by omega, .inr ⟨q', ?_, rfl⟩, by simp; omega, by rw [hfo, List.append_assoc]; rfl⟩
              rw [List.map_append]
              first | done | rfl | (rw [he]; done) | (rw [he]; rfl)
          · have hq : inForest g R i x = false := hin.trans hq
            rw [if_neg (by rw [hq]; decide)] at hfo
            conv => whnf
            repeat (refine ⟨gP_of ⟨by omega, by omega⟩, ?_⟩; conv => whnf)
            exact ⟨_, _, Turn.refl _ _, _, (by omega), k + 1, o, _, _, rfl, rfl, rfl, by omega, ho, by omega, hfo⟩
        · rw [drop_nil hk2, List.filter_nil, List.nil_append] at hfo
          conv => whnf
          repeat (refine ⟨gP_of ⟨by omega, by omega⟩, ?_⟩; conv => whnf)
          exact ⟨_, _, Turn.refl _ _, _, (by omega), i + 1, o, _, _, rfl, rfl, rfl, by omega, ho, by omega, hfo⟩
    · rw [drop_nil hi2, forestGo, List.append_nil] at hfo
      rw [hfo]
      conv => whnf
      skip
      exact VLe.tup (.cons (ho.le (by decide)) (.cons (VLe.refl _) .nil))
end Go.Abs.Wall

