/- What is proved: small laws for the walks of this seat, and contracts of its functions. No condition but those each theorem names. -/
import Derived.Test.YtoncocddopjjcaaGreatN19
import Derived.Test.YtoncocddopjjcaaGreatN8
import Derived.Test.YtoncocddopjjcaaGreatN11
set_option maxRecDepth 100000
set_option linter.unusedVariables false
set_option linter.unusedSimpArgs false
namespace Go.Abs.Wall
open Go Go.Abs Go.Proofs Go.Proofs.YtoncocddopjjcaaGreat.Br
/-! ### the house that has more -/
def addV (s t : Sgn) : Sgn := { s with values := s.values ++ t.values }
def moreSg : List Sgn → List Sgn → List Sgn
  | [], _ => []
  | a :: xs, [] => a :: xs
  | a :: xs, b :: ys => addV a b :: moreSg xs ys
def moreHou (H B : Hou) : Hou := ⟨⟨H.list.periods, moreSg H.list.signs B.list.signs⟩, ⟨H.lex.entries ++ B.lex.entries, H.lex.endings ++ B.lex.endings, H.lex.clitics ++ B.lex.clitics⟩, H.costs, H.period⟩
theorem moreSg_len : ∀ a b : List Sgn, (moreSg a b).length = a.length
  | [], _ => rfl
  | a :: xs, [] => rfl
  | a :: xs, b :: ys => by rw [moreSg, List.length_cons, List.length_cons, moreSg_len xs ys]
theorem moreSg_nil (a : List Sgn) : moreSg a [] = a := by cases a <;> rfl
theorem moreSg_vals : ∀ (a b : List Sgn) (n : Nat) (d : Sgn), ∃ l, ((moreSg a b).getD n d).values = (a.getD n d).values ++ l
  | [], _, n, d => ⟨[], by rw [List.append_nil]; rfl⟩
  | a :: xs, [], n, d => ⟨[], by rw [List.append_nil]; rfl⟩
  | a :: xs, b :: ys, 0, d => ⟨b.values, rfl⟩
  | a :: xs, b :: ys, n + 1, d => by
    obtain ⟨l, h⟩ := moreSg_vals xs ys n d
    exact ⟨l, by simpa [moreSg] using h⟩
theorem moreHou_more (H B : Hou) : MoreH H (moreHou H B) :=
  ⟨⟨⟨_, rfl⟩, ⟨_, rfl⟩, ⟨_, rfl⟩⟩, rfl, rfl, moreSg_len _ _, fun n => moreSg_vals _ _ n _⟩
theorem moreSg_step : ∀ (a b : List Sgn) (i : Nat) (s t : Sgn), a[i]? = some s → b[i]? = some t → (moreSg a (b.take i))[i]? = some s ∧ (moreSg a (b.take i)).set i (addV s t) = moreSg a (b.take (i + 1))
  | [], _, i, s, t, h, _ => by simp at h
  | a :: xs, [], i, s, t, _, h => by simp at h
  | a :: xs, b :: ys, 0, s, t, h1, h2 => by
    simp only [List.getElem?_cons_zero, Option.some.injEq] at h1 h2
    subst h1; subst h2
    simp [moreSg, moreSg_nil]
  | a :: xs, b :: ys, i + 1, s, t, h1, h2 => by
    simp only [List.getElem?_cons_succ] at h1 h2
    obtain ⟨e1, e2⟩ := moreSg_step xs ys i s t h1 h2
    simp only [List.take_succ_cons, moreSg, List.getElem?_cons_succ, List.set_cons_succ]
    exact ⟨e1, by rw [e2]⟩
theorem moreSg_end : ∀ (a b : List Sgn) (i : Nat), (a.length ≤ i ∨ b.length ≤ i) → moreSg a (b.take i) = moreSg a b
  | [], _, _, _ => rfl
  | a :: xs, [], i, _ => by rw [List.take_nil]
  | a :: xs, b :: ys, 0, h => by simp at h
  | a :: xs, b :: ys, i + 1, h => by
    rw [List.take_succ_cons, moreSg, moreSg, moreSg_end xs ys i (by simpa using h)]
/-! ### arguments, with their lengths -/
structure HouB (H : Hou) : Prop where
  vals : ∀ s ∈ H.list.signs, s.values.length ≤ B20
  ent : H.lex.entries.length ≤ B20
  edn : H.lex.endings.length ≤ B20
  cli : H.lex.clitics.length ≤ B20
theorem shSgnB {xs : List AV} (h : Sh Tryz.prog B20 94 xs) : ∃ s : Sgn, xs = encSgn s ∧ SgnFit s ∧ s.values.length ≤ B20 := by
  obtain ⟨ps, rfl, hp⟩ := sh_struct h rfl
  obtain ⟨x, y, z, u, v, rfl, h1, h2, h3, h4, h5⟩ := sh5 hp
  obtain ⟨a, rfl, ha⟩ := sh_str h1 rfl
  obtain ⟨b, rfl, hb⟩ := shInt h2
  obtain ⟨c, rfl, _⟩ := shInt h3
  obtain ⟨d, rfl⟩ := sh_bool h4 rfl
  obtain ⟨e, rfl, he, hf⟩ := sh_list (enc := encVal) h5 rfl fun y hy => shVal hy
  exact ⟨⟨a, b, c, d, e⟩, rfl, ⟨b20 ha, b20 he, fun v hv => b20 (hf v hv)⟩, he⟩
theorem shHouB {xs : List AV} (h : Sh Tryz.prog B20 33 xs) : ∃ H : Hou, xs = encHou H ∧ HouFit H ∧ HouB H := by
  obtain ⟨ps, rfl, hp⟩ := sh_struct h rfl
  obtain ⟨x, y, z, u, rfl, h1, h2, h3, h4⟩ := sh4 hp
  obtain ⟨ps1, rfl, hp1⟩ := sh_struct h1 rfl
  obtain ⟨x1, y1, rfl, g1, g2⟩ := sh2 hp1
  obtain ⟨a, rfl, _⟩ := shInt g1
  obtain ⟨b, rfl, hb, hf⟩ := sh_list (enc := encSgn) g2 rfl fun y hy => shSgnB hy
  obtain ⟨ps2, rfl, hp2⟩ := sh_struct h2 rfl
  obtain ⟨x2, y2, z2, rfl, k1, k2, k3⟩ := sh3 hp2
  obtain ⟨c, rfl, hc, fc⟩ := sh_list (enc := encEnt) k1 rfl fun y hy => shEnt hy
  obtain ⟨d, rfl, hd, fd⟩ := sh_list (enc := encEdn) k2 rfl fun y hy => shEdn hy
  obtain ⟨e, rfl, he, fe⟩ := sh_list (enc := encCli) k3 rfl fun y hy => shCli hy
  obtain ⟨f, rfl⟩ := shCos h3
  obtain ⟨g, rfl, hg⟩ := shInt h4
  exact ⟨⟨⟨a, b⟩, ⟨c, d, e⟩, f, g⟩, rfl, ⟨⟨b20 hb, fun s hs => (hf s hs).1⟩, ⟨b20 hc, b20 hd, b20 he, fc, fd, fe⟩⟩, ⟨fun s hs => (hf s hs).2, hc, hd, he⟩⟩
theorem argHouB {x : AV} (h : ArgSh Tryz.prog B20 33 x) : ∃ H : Hou, x = .agg (encHou H) ∧ HouFit H ∧ HouB H := by
  obtain ⟨xs, h, hx⟩ := h
  have hx : x = .agg xs := hx
  subst hx
  obtain ⟨H, rfl, hH⟩ := shHouB h
  exact ⟨H, rfl, hH⟩
theorem argCasB {x : AV} (h : ArgSh Tryz.prog B20 71 x) : ∃ c : Cas, x = .agg (encCas c) ∧ HouFit c.house ∧ HouB c.house ∧ c.line.length ≤ B20 := by
  obtain ⟨xs, h, hx⟩ := h
  have hx : x = .agg xs := hx
  subst hx
  obtain ⟨ps, rfl, hp⟩ := sh_struct h rfl
  obtain ⟨y, z, rfl, h1, h2⟩ := sh2 hp
  obtain ⟨H, rfl, hH, hB⟩ := shHouB h1
  obtain ⟨l, rfl, hl, _⟩ := shInts h2
  exact ⟨⟨H, l⟩, rfl, hH, hB, hl⟩
theorem moreSg_mem : ∀ (a b : List Sgn), ∀ s ∈ moreSg a b, s ∈ a ∨ ∃ x ∈ a, ∃ y ∈ b, s = addV x y
  | [], _, s, h => by cases h
  | a :: xs, [], s, h => .inl h
  | a :: xs, b :: ys, s, h => by
    rw [moreSg] at h
    rcases List.mem_cons.1 h with rfl | h
    · exact .inr ⟨a, by simp, b, by simp, rfl⟩
    · rcases moreSg_mem xs ys s h with h | ⟨x, hx, y, hy, e⟩
      · exact .inl (by simp [h])
      · exact .inr ⟨x, by simp [hx], y, by simp [hy], e⟩
theorem moreHou_fit {H B : Hou} (h1 : HouFit H) (b1 : HouB H) (h2 : HouFit B) (b2 : HouB B) : HouFit (moreHou H B) := by
  have e1 := b1.ent; have e2 := b1.edn; have e3 := b1.cli
  have f1 := b2.ent; have f2 := b2.edn; have f3 := b2.cli
  unfold B20 at e1 e2 e3 f1 f2 f3
  refine ⟨⟨?_, fun s hs => ?_⟩, ?_, ?_, ?_, ?_, ?_, ?_⟩
  · show (moreSg _ _).length ≤ _
    rw [moreSg_len]; exact h1.list.signs
  · rcases moreSg_mem _ _ s hs with h | ⟨x, hx, y, hy, rfl⟩
    · exact h1.list.each s h
    · have g1 := b1.vals x hx
      have g2 := b2.vals y hy
      unfold B20 at g1 g2
      refine ⟨(h1.list.each x hx).code, ?_, fun v hv => ?_⟩
      · show (x.values ++ y.values).length ≤ LMAX
        rw [List.length_append]; unfold LMAX; omega
      · rcases List.mem_append.1 hv with hv | hv
        · exact (h1.list.each x hx).texts v hv
        · exact (h2.list.each y hy).texts v hv
  · show (H.lex.entries ++ B.lex.entries).length ≤ LMAX
    rw [List.length_append]; unfold LMAX; omega
  · show (H.lex.endings ++ B.lex.endings).length ≤ LMAX
    rw [List.length_append]; unfold LMAX; omega
  · show (H.lex.clitics ++ B.lex.clitics).length ≤ LMAX
    rw [List.length_append]; unfold LMAX; omega
  · exact fun e he => (List.mem_append.1 he).elim (h1.lex.ent e) (h2.lex.ent e)
  · exact fun e he => (List.mem_append.1 he).elim (h1.lex.edn e) (h2.lex.edn e)
  · exact fun e he => (List.mem_append.1 he).elim (h1.lex.cli e) (h2.lex.cli e)
end Go.Abs.Wall
set_option maxRecDepth 100000
set_option linter.unusedVariables false
set_option linter.unusedSimpArgs false
namespace Go.Abs.Wall
open Go Go.Abs Go.Proofs
/-! ### the law of more -/
theorem _root_.Go.Abs.VsLe.pre' {a b : List AV} (h : VsLe a b) : ∀ xs : List AV, VsLe (xs ++ a) (xs ++ b)
  | [] => h
  | x :: xs => .cons (VLe.refl x) (VsLe.pre' h xs)
theorem _root_.Go.Abs.VsLe.post' : ∀ {a b : List AV}, VsLe a b → ∀ xs : List AV, VsLe (a ++ xs) (b ++ xs)
  | _, _, .nil, xs => VsLe.refl xs
  | _, _, .cons h1 h2, xs => .cons h1 (h2.post' xs)
def c13 : Cfg := ⟨[0, 1, 2, 3, 4, 6, 7, 9, 10, 11, 12, 13, 14, 31, 44, 67, 118], [51], [13], [], [(12, [0, 1, 2, 3, 4, 6, 7, 8, 9, 10, 11, 12, 5, 13, 14, 15, 16], []), (14, [0, 1, 2, 4, 5, 7, 8, 9, 11, 12, 14, 15, 16, 18, 19, 3, 6, 10, 13, 17, 20, 21, 22, 23], []), (15, [], [])], []⟩
section
variable {α : Type} {k : Nat} {enc : α → List AV}
theorem flat_split (hk : ∀ a, (enc a).length = k) {L : List α} {i : Nat} {x : α} (hx : L[i]? = some x) : (L.map enc).flatten = ((L.take i).map enc).flatten ++ (enc x ++ ((L.drop (i + 1)).map enc).flatten) := by
  have e : L = L.take i ++ x :: L.drop (i + 1) := by rw [← drop_cons hx, List.take_append_drop]
  have := congrArg (fun z => (z.map enc).flatten) e
  simpa using this
theorem flat_get (hk : ∀ a, (enc a).length = k) {L : List α} {i j : Nat} {x : α} (hx : L[i]? = some x) (hj : j < k) : (L.map enc).flatten[i * k + j]? = (enc x)[j]? := by
  have hi := (List.getElem?_eq_some_iff.1 hx).1
  have hpre : ((L.take i).map enc).flatten.length = i * k := by rw [flat_len hk, List.length_take, Nat.min_eq_left (by omega)]
  rw [flat_split hk hx, List.getElem?_append_right (by omega), hpre, Nat.add_sub_cancel_left, List.getElem?_append_left (by rw [hk]; exact hj)]
theorem flat_setle (hk : ∀ a, (enc a).length = k) {L : List α} {i j : Nat} {x y : α} {v : AV} (hx : L[i]? = some x) (hj : j < k) (hv : VsLe ((enc x).set j v) (enc y)) :
    VsLe (setC (L.map enc).flatten (i * k + j) [v]) ((L.set i y).map enc).flatten := by
  have hi := (List.getElem?_eq_some_iff.1 hx).1
  have hpre : ((L.take i).map enc).flatten.length = i * k := by rw [flat_len hk, List.length_take, Nat.min_eq_left (by omega)]
  have hlen : i * k + j < (L.map enc).flatten.length := by
    rw [flat_len hk]
    have := Nat.mul_le_mul_right k (show i + 1 ≤ L.length by omega)
    rw [Nat.succ_mul] at this
    omega
  have hset : (L.set i y)[i]? = some y := by rw [List.getElem?_set_self hi]
  rw [setC_row hlen, flat_split hk hx, flat_split hk hset, List.set_append, if_neg (by omega), hpre, Nat.add_sub_cancel_left, List.set_append, if_pos (by rw [hk]; exact hj), List.take_set_of_le (Nat.le_refl _), List.drop_set_of_lt (Nat.lt_succ_self _)]
  exact VsLe.pre' (VsLe.post' hv _) _
end
theorem encSgn_len : ∀ a, (encSgn a).length = 5 := fun _ => rfl
def houO (H : Hou) (v : AV) : List AV := [.int .i64 H.list.periods, v] ++ (encLex H.lex ++ (encCos H.costs ++ [.int .i64 H.period]))
def c13e : Cfg := ⟨c13.keep, [], c13.frz, c13.spl, c13.ords, []⟩
theorem readMoreE (c : Cas) (B : Hou) (ws : List Wrd) (hf : HouFit c.house) (hb : HouB c.house) (hl : c.line.length ≤ 1048576) (hf2 : HouFit B) (hb2 : HouB B) (hw : WsFit ws) (hne : c.house.list.signs = []) :
    QCall Tryz.prog 13 [.agg (encCas c), .agg (encHou B), .sl 4 none (ws.map encWrd)] [] (.bool true) := by
  have hws := hw.many
  refine QCall.of' ?_
  refine fcalls (F := Tryz.f13) c13e rfl rfl rfl mixed rfl fun X => ?_
  conv => whnf
  repeat (refine gcall (refHouse c.house hf) ?_; conv => whnf)
  refine ⟨fun h1 => ?_, fun h1 => ?_⟩
  · conv => whnf
    repeat (refine QCall.k0 (worksW) ?_; conv => whnf)
  have h1 : (decide (100 < ((ws.map encWrd).length : Int)) || decide (20 < ((B.list.signs.map encSgn).length : Int)) || !decide (houErr c.house = 0)) = false := h1
  rw [List.length_map, List.length_map] at h1
  simp at h1
  conv => whnf
  repeat (refine QCall.k0 (ValidW c.house c.line ws hf hl hw) ?_; conv => whnf)
  refine ⟨fun h2 => ?_, fun h2 => ?_⟩ <;> simp at h2
  · conv => whnf
    repeat (refine QCall.k0 (worksW) ?_; conv => whnf)
  have be := hb.ent; have bd := hb.edn; have bc := hb.cli
  have be2 := hb2.ent; have bd2 := hb2.edn; have bc2 := hb2.cli
  unfold B20 at be bd bc be2 bd2 bc2
  have hBs : B.list.signs.length ≤ 20 := by omega
  conv => whnf
  repeat ((first | refine ⟨_, _, .head _, rfl, ?_⟩ | refine ⟨_, _, .here _, leOK, ?_⟩ | intro (nb : Nat)); conv => whnf)
  refine ⟨(by rw [hne]; decide), fun q => ?_⟩
  repeat (refine ⟨_, _, .there (.here _), leOK, ?_⟩; conv => whnf)
  refine tloop rfl mixed [2, 3, 4, 7, 10, 11] [] (fun m r h => ∃ (i : Nat), r = [(2, [], .sl 4 none (ws.map encWrd)), (3, [], .iptr (encCas c)), (4, [], .iptr (encHou B)), (7, [], .int .i64 (validM c.house c.line ws).cost), (10, [], .optr nb 0), (11, [], .int .i64 i)] ∧ h = [(nb, .vec (houO c.house (.sl 5 none (c.house.list.signs.map encSgn))))] ∧ m = 0 ∧ i = 0) ?_ ?_
  · conv => whnf
    exact ⟨_, _, Turn.trans (Turn.cells (ys := houO c.house (.sl 5 none (c.house.list.signs.map encSgn))) (.there (.here _)) (.cons (VLe.refl _) (.cons VLe.sl (VsLe.refl _)))) (Turn.drop (.here _)), _, 0, rfl, rfl, rfl, rfl⟩
  · rintro m r h' ⟨i, rfl, rfl, rfl, hi0⟩
    subst hi0
    conv => whnf
    repeat (refine ⟨_, _, .head _, rfl, ?_⟩; conv => whnf)
    refine ⟨fun hz => ?_, fun hz => ?_⟩
    · exfalso
      rw [Bool.and_eq_true, decide_eq_true_eq, decide_eq_true_eq, List.length_map, List.length_map, hne] at hz
      simp at hz
    · have hfit := moreHou_fit hf hb hf2 hb2
      have sl2 : ∀ {α : Type} {k q : Nat} {e : α → List AV} {x y : List α}, VLe (.sl k (some q) (x.map e ++ y.map e)) (.sl k none ((x ++ y).map e)) := by
        intro α k q e x y
        rw [List.map_append]
        exact VLe.sl
      have hs1 : VLe (.sl 5 none (c.house.list.signs.map encSgn)) (.sl 5 none ((moreSg c.house.list.signs B.list.signs).map encSgn)) := by
        rw [show moreSg c.house.list.signs B.list.signs = c.house.list.signs by rw [hne]; rfl]
        exact VLe.refl _
      conv => whnf
      repeat ((first | (refine ⟨(by rw [List.length_map]; unfold AMAX; omega), fun q1 => ?_⟩) | (refine ⟨(by rw [List.length_append, List.length_map, List.length_map]; unfold AMAX; omega), fun q2 => ⟨_, .here _, ?_⟩⟩)
                     | (refine ⟨_, _, .there (.there (.there (.here _))), leOK, ?_⟩) | refine ⟨_, _, Rem.here _, ⟨Nat.le_of_ble_eq_true rfl, rfl⟩, ?_⟩ | refine ⟨_, _, .head _, rfl, ?_⟩
                     | refine And.intro (by show drawOK (opsAt Tryz.f13 _) _ = true; decide +kernel) ?_ | intro (nb : Nat)); conv => whnf)
      refine region_turn rfl mixed (Turn.trans (Turn.cells (ys := encHou (moreHou c.house B)) (.there (.there (.there (.here _)))) (.cons (VLe.refl _) (.cons hs1 (.cons sl2 (.cons sl2 (.cons sl2 (VsLe.refl _))))))) (Turn.trans (Turn.drop (.here _)) (Turn.trans (Turn.drop (.here _)) (Turn.drop (.here _))))) ?_
      conv => whnf
      repeat ((first | refine QCall.k0 (refHouse (moreHou c.house B) hfit) ?_ | refine ⟨_, _, .head _, rfl, ?_⟩); conv => whnf)
      refine ⟨fun h3 => ?_, fun h3 => ?_⟩ <;> simp at h3
      · conv => whnf
        repeat (refine QCall.k0 (worksW) ?_; conv => whnf)
      have hv := validM_more (moreHou_more c.house B) h3 h2
      have hvw := ValidW (moreHou c.house B) c.line ws hfit hl hw
      rw [hv] at hvw
      conv => whnf
      repeat ((first | refine QCall.k0 (hvw) ?_ | refine gcall (worksW) ?_ | refine ⟨_, _, .head _, rfl, ?_⟩); conv => whnf)
      exact congrArg AV.bool (by rw [h2]; simp)
theorem readMoreL (c : Cas) (B : Hou) (ws : List Wrd) (hf : HouFit c.house) (hb : HouB c.house) (hl : c.line.length ≤ 1048576) (hf2 : HouFit B) (hb2 : HouB B) (hw : WsFit ws) :
    QCall Tryz.prog 13 [.agg (encCas c), .agg (encHou B), .sl 4 none (ws.map encWrd)] [] (.bool true) := by
  have hws := hw.many
  by_cases hne : c.house.list.signs = []
  · exact readMoreE c B ws hf hb hl hf2 hb2 hw hne
  refine QCall.of' ?_
  refine fcalls (F := Tryz.f13) c13 rfl rfl rfl mixed rfl fun X => ?_
  conv => whnf
  repeat (refine gcall (refHouse c.house hf) ?_; conv => whnf)
  refine ⟨fun h1 => ?_, fun h1 => ?_⟩
  · conv => whnf
    repeat (refine QCall.k0 (worksW) ?_; conv => whnf)
  have h1 : (decide (100 < ((ws.map encWrd).length : Int)) || decide (20 < ((B.list.signs.map encSgn).length : Int)) || !decide (houErr c.house = 0)) = false := h1
  rw [List.length_map, List.length_map] at h1
  simp at h1
  conv => whnf
  repeat (refine QCall.k0 (ValidW c.house c.line ws hf hl hw) ?_; conv => whnf)
  refine ⟨fun h2 => ?_, fun h2 => ?_⟩ <;> simp at h2
  · conv => whnf
    repeat (refine QCall.k0 (worksW) ?_; conv => whnf)
  have hsl := hf.list.signs
  have hspos := List.length_pos_iff.2 hne
  have hH := houOK (show houErr c.house = 0 by simpa using h1.2)
  have hs200 := (lstOK hH.lst).many
  conv => whnf
  repeat ((first | refine ⟨_, _, .head _, rfl, ?_⟩ | refine ⟨_, _, .here _, leOK, ?_⟩ | intro (nb : Nat)); conv => whnf)
  refine ⟨⟨by rw [List.length_map]; exact hspos, by rw [List.length_map]; unfold AMAX; omega⟩, fun b => ?_⟩
  rw [List.length_map]
  repeat (refine ⟨_, _, .there (.here _), leOK, ?_⟩; conv => whnf)
  have hBs : B.list.signs.length ≤ 20 := by omega
  have be := hb.ent; have bd := hb.edn; have bc := hb.cli
  have be2 := hb2.ent; have bd2 := hb2.edn; have bc2 := hb2.cli
  unfold B20 at be bd bc be2 bd2 bc2
  refine tloop rfl mixed [2, 3, 4, 7, 10, 11] [] (fun m r h => ∃ (i : Nat), r = [(2, [], .sl 4 none (ws.map encWrd)), (3, [], .iptr (encCas c)), (4, [], .iptr (encHou B)), (7, [], .int .i64 (validM c.house c.line ws).cost), (10, [], .optr nb 0), (11, [], .int .i64 i)] ∧ h = [(b, .vec ((moreSg c.house.list.signs (B.list.signs.take i)).map encSgn).flatten), (nb, .vec (houO c.house (.osl b 0 c.house.list.signs.length 5)))] ∧ m = B.list.signs.length - i ∧ i ≤ B.list.signs.length ∧ i ≤ c.house.list.signs.length) ?_ ?_
  · conv => whnf
    exact ⟨_, _, Turn.refl _ _, _, 0, rfl, by rw [List.take_zero, moreSg_nil, List.length_map]; rfl, rfl, by omega, by omega⟩
  · rintro m r h' ⟨i, rfl, rfl, rfl, hi, hi'⟩
    conv => whnf
    repeat (refine ⟨_, _, .tail _ (.head _), rfl, ?_⟩; conv => whnf)
    refine ⟨fun hz => ?_, fun hz => ?_⟩ <;> simp at hz
    · obtain ⟨s, hs⟩ := get_lt (l := c.house.list.signs) (i := i) (by omega)
      obtain ⟨t, ht⟩ := get_lt (l := B.list.signs) (i := i) (by omega)
      obtain ⟨e1, e2⟩ := moreSg_step _ _ i s t hs ht
      have hld : ((moreSg c.house.list.signs (B.list.signs.take i)).map encSgn).flatten[0 + i * 5 + 4]? = some (.sl 4 none (s.values.map encVal)) := by rw [Nat.zero_add]; exact flat_get encSgn_len e1 (by decide)
      have hsv := ((lstOK hH.lst).each s (List.mem_of_getElem? hs)).few
      have htv := hb2.vals t (List.mem_of_getElem? ht)
      unfold B20 at htv
      have hlen : 0 + i * 5 + 4 + 1 ≤ ((moreSg c.house.list.signs (B.list.signs.take i)).map encSgn).flatten.length := by rw [flat_len encSgn_len, moreSg_len]; omega
      conv => whnf
      repeat ((first | refine ⟨gP_of ⟨by omega, by omega⟩, ?_⟩ | refine ix (by assumption) ?_ | (refine ixo (i := i) (by omega) ?_) | (refine ldo (v := .sl 4 none (s.values.map encVal)) (.head _) rfl hld ?_)
                     | (refine ⟨(by rw [List.length_map]; unfold AMAX; omega), fun q1 => ?_⟩) | (refine ⟨(by rw [List.length_append, List.length_map, List.length_map]; unfold AMAX; omega), fun q2 => ⟨_, .here _, ?_⟩⟩)
                     | (refine ⟨_, _, .there (.here _), ⟨Nat.le_of_ble_eq_true rfl, hlen⟩, ?_⟩) | refine ⟨_, _, .tail _ (.head _), rfl, ?_⟩ | refine And.intro (by show drawOK (opsAt Tryz.f13 _) _ = true; decide +kernel) ?_); conv => whnf)
      refine ⟨_, _, Turn.trans (Turn.cells (ys := ((moreSg c.house.list.signs (B.list.signs.take (i + 1))).map encSgn).flatten) (.there (.here _)) ?_) (Turn.drop (.here _)), _, (by omega), i + 1, rfl, rfl, rfl, by omega, by omega⟩
      rw [← e2]
      show VsLe (setC _ (0 + i * 5 + 4) _) _
      rw [Nat.zero_add]
      exact flat_setle encSgn_len e1 (by decide) (.cons (VLe.refl _) (.cons (VLe.refl _) (.cons (VLe.refl _) (.cons (VLe.refl _) (.cons (by show VLe _ (.sl 4 none ((s.values ++ t.values).map encVal)); rw [List.map_append]; exact VLe.sl) .nil)))))
    · have hend : moreSg c.house.list.signs (B.list.signs.take i) = moreSg c.house.list.signs B.list.signs := moreSg_end _ _ _ (by by_cases h : i < B.list.signs.length; left; have := hz h; omega; right; omega)
      rw [hend]
      conv => whnf
      repeat ((first | (refine ⟨(by rw [List.length_map]; unfold AMAX; omega), fun q1 => ?_⟩) | (refine ⟨(by rw [List.length_append, List.length_map, List.length_map]; unfold AMAX; omega), fun q2 => ⟨_, .here _, ?_⟩⟩)
                     | (refine ⟨_, _, .there (.there (.there (.there (.here _)))), leOK, ?_⟩) | refine ⟨_, _, Rem.here _, ⟨Nat.le_of_ble_eq_true rfl, rfl⟩, ?_⟩ | refine ⟨_, _, .tail _ (.head _), rfl, ?_⟩
                     | refine And.intro (by show drawOK (opsAt Tryz.f13 _) _ = true; decide +kernel) ?_ | intro (nb : Nat)); conv => whnf)
      have hml : (moreSg c.house.list.signs B.list.signs).length = c.house.list.signs.length := moreSg_len _ _
      have hfit := moreHou_fit hf hb hf2 hb2
      have sl2 : ∀ {α : Type} {k q : Nat} {e : α → List AV} {x y : List α}, VLe (.sl k (some q) (x.map e ++ y.map e)) (.sl k none ((x ++ y).map e)) := by
        intro α k q e x y
        rw [List.map_append]
        exact VLe.sl
      refine region_turn rfl mixed (Turn.trans (Turn.freeze (b := b) (.there (.there (.there (.here _)))) (.same (.same (.same (.vec (.cons (.refl _) (.cons (fzEnc encSgn_len hml) (FzVs.refl _))) .nil)))) (FzR.refl _)) (Turn.trans (Turn.cells (ys := encHou (moreHou c.house B)) (.there (.there (.there (.here _)))) (.cons (VLe.refl _) (.cons (VLe.refl _) (.cons sl2 (.cons sl2 (.cons sl2 (VsLe.refl _))))))) (Turn.trans (Turn.drop (.here _)) (Turn.trans (Turn.drop (.here _)) (Turn.drop (.here _)))))) ?_
      conv => whnf
      repeat ((first | refine QCall.k0 (refHouse (moreHou c.house B) hfit) ?_ | refine ⟨_, _, .head _, rfl, ?_⟩); conv => whnf)
      refine ⟨fun h3 => ?_, fun h3 => ?_⟩ <;> simp at h3
      · conv => whnf
        repeat (refine QCall.k0 (worksW) ?_; conv => whnf)
      have hv := validM_more (moreHou_more c.house B) h3 h2
      have hvw := ValidW (moreHou c.house B) c.line ws hfit hl hw
      rw [hv] at hvw
      conv => whnf
      repeat ((first | refine QCall.k0 (hvw) ?_ | refine gcall (worksW) ?_ | refine ⟨_, _, .head _, rfl, ?_⟩); conv => whnf)
      exact congrArg AV.bool (by rw [h2]; simp)
end Go.Abs.Wall

