/- What is proved: small laws for the walks of this seat, and contracts of its functions. No condition but those each theorem names. -/
import Derived.Test.YtbgnfchlelhbeaaM7
set_option maxRecDepth 100000
set_option linter.unusedVariables false
namespace Go.Abs.Wall
open Go Go.Abs Go.Proofs
/-! ### theory: what a restoration says of its line -/
theorem divS_low : ∀ (cs : List Cel) (l : List Int) (i : Nat), ∀ d ∈ divS cs l i, (i : Int) ≤ d
  | [], l, i => by simp [divS]
  | c :: cs, l, i => by
    intro d hd
    rw [divS, List.mem_append] at hd
    rcases hd with hd | hd
    · rw [(List.mem_replicate.1 hd).2]; exact Int.le_refl _
    · have := divS_low cs _ (i + 1) d hd; omega
theorem divS_up : ∀ (cs : List Cel) (l : List Int) (i : Nat), (divS cs l i).Pairwise (· ≤ ·)
  | [], l, i => by simp [divS]
  | c :: cs, l, i => by
    rw [divS, List.pairwise_append]
    refine ⟨?_, divS_up cs _ (i + 1), fun a ha b hb => ?_⟩
    · rw [List.pairwise_replicate]; exact .inr (Int.le_refl _)
    · rw [(List.mem_replicate.1 ha).2]; have := divS_low cs _ (i + 1) b hb; omega
theorem divS_allow : ∀ (cs : List Cel) (l : List Int) (i : Nat), fitB cs l = true → ∀ (p : Nat) (d x : Int), (divS cs l i)[p]? = some d → l[p]? = some x → ∃ c, cs[(d - i).toNat]? = some c ∧ allows c x = true
  | [], l, i, _, p, d, x, h, _ => by simp [divS] at h
  | c :: cs, l, i, hf, p, d, x, h, hx => by
    obtain ⟨m0, h0⟩ := fitB_cons.1 hf
    rcases most_spec c (fitB cs) l with ⟨e, hn⟩ | ⟨m, e, h1, hm⟩
    · exact absurd h0 (hn m0)
    · rw [divS, e, Int.toNat_natCast] at h
      obtain ⟨_, _, h2, h3, h4⟩ := h1
      by_cases hp : p < m
      · rw [List.getElem?_append_left (by simpa using hp), List.getElem?_replicate, if_pos hp] at h
        cases h
        refine ⟨c, by rw [show ((i : Int) - i).toNat = 0 from by omega]; rfl, h3 x (List.mem_of_getElem? (i := p) (by rw [List.getElem?_take, if_pos hp]; exact hx))⟩
      · rw [List.getElem?_append_right (by simp; omega), List.length_replicate] at h
        have hlow := divS_low cs _ (i + 1) d (List.mem_of_getElem? h)
        obtain ⟨c', g1, g2⟩ := divS_allow cs _ (i + 1) h4 (p - m) d x h (by rw [List.getElem?_drop, show m + (p - m) = p from by omega]; exact hx)
        refine ⟨c', ?_, g2⟩
        rw [show (d - (i : Int)).toNat = (d - ((i + 1 : Nat) : Int)).toNat + 1 from by omega, List.getElem?_cons_succ]
        exact g1
theorem divS_count : ∀ (cs : List Cel) (l : List Int) (i : Nat), fitB cs l = true → ∀ (q : Nat) (c : Cel), cs[q]? = some c → c.mn ≤ (divS cs l i).count ((i + q : Nat) : Int) ∧ ((divS cs l i).count ((i + q : Nat) : Int) : Int) ≤ c.mx
  | [], l, i, _, q, c, h => by simp at h
  | c0 :: cs, l, i, hf, q, c, h => by
    obtain ⟨m0, h0⟩ := fitB_cons.1 hf
    rcases most_spec c0 (fitB cs) l with ⟨e, hn⟩ | ⟨m, e, h1, hm⟩
    · exact absurd h0 (hn m0)
    · rw [divS, e, Int.toNat_natCast]
      obtain ⟨g1, g2, h2, h3, h4⟩ := h1
      rw [List.count_append, List.count_replicate]
      cases q with
      | zero =>
        rw [List.getElem?_cons_zero] at h
        cases h
        have : (divS cs (l.drop m) (i + 1)).count ((i + 0 : Nat) : Int) = 0 := List.count_eq_zero.2 fun hd => by have := divS_low cs _ (i + 1) _ hd; omega
        rw [show ((i : Int) + 1) = ((i + 1 : Nat) : Int) from by omega] at *
        rw [this, Nat.add_zero, if_pos (by simp)]
        omega
      | succ q =>
        rw [List.getElem?_cons_succ] at h
        have := divS_count cs (l.drop m) (i + 1) h4 q c h
        rw [if_neg (by simp; omega), Nat.zero_add]
        rw [show i + (q + 1) = i + 1 + q from by omega]
        exact this
def tkn : List Int → Int
  | [] => 0
  | k :: l => (if k ≠ -1 then 1 else 0) + tkn l
theorem tkn_bd : ∀ l : List Int, 0 ≤ tkn l ∧ tkn l ≤ l.length
  | [] => by simp [tkn]
  | k :: l => by have := tkn_bd l; rw [tkn, List.length_cons]; split <;> omega
/-- sources: rising, and of equal signs -/
def SOK (par : List Int) : List Int → List Int → Int → Prop
  | k :: S, x :: w, last => (k = -1 ∧ SOK par S w last) ∨ (k ≠ -1 ∧ last < k ∧ k < par.length ∧ par.getD k.toNat 0 = x ∧ SOK par S w k)
  | _, _, _ => True
theorem SOK.weak (par : List Int) : ∀ (S w : List Int) (a b : Int), a ≤ b → SOK par S w b → SOK par S w a
  | [], w, a, b, h, _ => by cases w <;> trivial
  | k :: S, [], a, b, h, _ => trivial
  | k :: S, x :: w, a, b, h, hs => by
    rw [SOK] at hs ⊢
    rcases hs with ⟨h1, h2⟩ | ⟨h1, h2, h3, h4, h5⟩
    · exact .inl ⟨h1, SOK.weak par S w a b h h2⟩
    · exact .inr ⟨h1, by omega, h3, h4, h5⟩
theorem src_ok (P : List Int) : ∀ (l : List Int) (j : Nat), SOK P (srcGo P (pairsGo l (P.drop j) j) l) l ((j : Int) - 1) ∧ (max (l.length : Int) ((P.drop j).length : Int)) - tkn (srcGo P (pairsGo l (P.drop j) j) l) ≤ dist l (P.drop j)
  | [], j => by
    unfold pairsGo srcGo
    refine ⟨trivial, ?_⟩
    rw [tkn, dist_nl]; simp only [List.length_nil]; omega
  | a :: l, j => by
    rw [pairsGo]
    split
    · rename_i hn
      have hp := pick_none hn
      obtain ⟨i1, i2⟩ := src_ok P l j
      rw [srcGo, if_neg (by omega)]
      rcases dist_pick a l (P.drop j) with ⟨o, b, h1, h2⟩ | h2
      · exact absurd (by simpa using h2) (hp o b h1)
      · refine ⟨.inl ⟨rfl, i1⟩, ?_⟩
        rw [tkn, if_neg (by simp)]
        simp only [List.length_cons] at *; omega
    · rename_i o hs
      obtain ⟨o', b, h1, h2, h3⟩ := pick_some hs
      obtain rfl : o = o' := by omega
      obtain ⟨i1, i2⟩ := src_ok P l (j + o + 1)
      have e1 : (P.drop j).drop (o + 1) = P.drop (j + o + 1) := by rw [List.drop_drop]; congr 1
      have hPo : P[j + o]? = some b := by rw [List.getElem?_drop] at h2; exact h2
      have hlt := (List.getElem?_eq_some_iff.1 hPo).1
      have hgd : P.getD ((j + o : Nat) : Int).toNat 0 = b := by rw [Int.toNat_natCast]; simp [List.getD, hPo]
      rw [e1] at h3 ⊢
      have hd := differ01 a b
      rw [srcGo, hgd]
      by_cases hab : a = b
      · have : differ a b = 0 := differ_zero.2 hab
        rw [if_neg (by rintro ⟨_, h⟩; exact h hab.symm)]
        refine ⟨.inr ⟨by omega, by omega, by omega, by rw [hgd, hab], by
          rw [show (((j + o : Nat) : Int)) = ((j + o + 1 : Nat) : Int) - 1 from by omega]; exact i1⟩, ?_⟩
        rw [tkn, if_pos (by omega)]
        simp only [List.length_cons, List.length_drop] at *
        omega
      · have : differ a b = 1 := by unfold differ; rw [if_neg hab]
        rw [if_pos ⟨by omega, fun h => hab h.symm⟩]
        refine ⟨.inl ⟨rfl, SOK.weak P _ _ _ _ (by omega) i1⟩, ?_⟩
        rw [tkn, if_neg (by simp)]
        simp only [List.length_cons, List.length_drop] at *
        omega
end Go.Abs.Wall
set_option maxRecDepth 100000
set_option linter.unusedVariables false
namespace Go.Abs.Wall
open Go Go.Abs Go.Proofs
/-! ### theory: the order of the lines -/
def lexlt : List Int → List Int → Bool
  | a :: l, b :: p => if a = b then lexlt l p else decide (a < b)
  | _, _ => false
def sooner (a b : Rst) : Bool := if a.changes = b.changes then (if a.signs.length = b.signs.length then lexlt a.signs b.signs else decide (a.signs.length < b.signs.length)) else decide (a.changes < b.changes)
def soonL (par a b : List Int) : Prop := dist a par < dist b par ∨ (dist a par = dist b par ∧ (a.length < b.length ∨ (a.length = b.length ∧ lexlt a b = true)))
theorem lexlt_asym : ∀ a b : List Int, lexlt a b = true → lexlt b a = false
  | [], b, h => by cases b <;> simp [lexlt] at h
  | a :: l, [], h => by simp [lexlt] at h
  | a :: l, b :: p, h => by
    rw [lexlt] at h ⊢
    by_cases e : a = b
    · rw [if_pos e] at h; rw [if_pos e.symm]; exact lexlt_asym l p h
    · rw [if_neg e] at h; rw [if_neg (fun e' => e e'.symm)]; simp at h ⊢; omega
theorem sooner_iff {cells : List Cel} {par a b : List Int} : sooner (restored cells par a) (restored cells par b) = true ↔ soonL par a b := by
  unfold sooner restored soonL
  simp only
  by_cases h1 : dist a par = dist b par
  · rw [if_pos h1]
    by_cases h2 : a.length = b.length
    · rw [if_pos h2]; exact ⟨fun h => .inr ⟨h1, .inr ⟨h2, h⟩⟩, fun h => by rcases h with h | ⟨_, h | h⟩; omega; omega; exact h.2⟩
    · rw [if_neg h2, decide_eq_true_eq]; exact ⟨fun h => .inr ⟨h1, .inl h⟩, fun h => by rcases h with h | ⟨_, h | h⟩; omega; exact h; omega⟩
  · rw [if_neg h1, decide_eq_true_eq]; exact ⟨fun h => .inl h, fun h => by rcases h with h | ⟨h, _⟩; exact h; exact absurd h h1⟩
theorem soonL_asym {par a b : List Int} (h : soonL par a b) : ¬ soonL par b a := by
  intro h'
  rcases h with h | ⟨h1, h | ⟨h2, h3⟩⟩ <;> rcases h' with g | ⟨g1, g | ⟨g2, g3⟩⟩
  all_goals first | omega | skip
  rw [lexlt_asym a b h3] at g3
  cases g3
theorem upto_up (n : Int) : (upto n).Pairwise (· < ·) := by
  unfold upto
  rw [List.pairwise_map]
  exact List.pairwise_lt_range.imp fun h => by omega
theorem words_up (n : Int) : ∀ r : Nat, (words n r).Pairwise (fun a b => lexlt a b = true)
  | 0 => by rw [words]; simp
  | r + 1 => by
    rw [words, List.pairwise_flatMap]
    refine ⟨fun s _ => ?_, (upto_up n).imp fun {s t} hst x hx y hy => ?_⟩
    · rw [List.pairwise_map]
      exact (words_up n r).imp fun h => by rw [lexlt, if_pos rfl]; exact h
    · obtain ⟨x', _, rfl⟩ := List.mem_map.1 hx
      obtain ⟨y', _, rfl⟩ := List.mem_map.1 hy
      rw [lexlt, if_neg (by omega)]
      simpa using hst
theorem range_up (n : Nat) : (List.range n).Pairwise (· < ·) := List.pairwise_lt_range
theorem all_up (n : Int) (cells : List Cel) (par : List Int) : (allLines n cells par).Pairwise (soonL par) := by
  have hR : ∀ (c : Int) (r : Nat) w, w ∈ linesR n cells par c r → w.length = r ∧ dist w par = c := fun c r w h => by
    unfold linesR at h
    obtain ⟨h1, h2⟩ := List.mem_filter.1 h
    simp only [Bool.and_eq_true, decide_eq_true_eq] at h2
    exact ⟨words_len w h1, h2.2⟩
  have hC : ∀ (c : Int) (K : Nat) w, w ∈ linesC n cells par K c → dist w par = c := fun c K w h => by
    unfold linesC at h
    obtain ⟨r, _, h⟩ := List.mem_flatMap.1 h
    exact (hR c r w h).2
  unfold allLines linesU
  rw [List.pairwise_flatMap]
  refine ⟨fun c _ => ?_, (range_up 200).imp fun {c d} hcd x hx y hy => ?_⟩
  · unfold linesC
    rw [List.pairwise_flatMap]
    refine ⟨fun r _ => ?_, (range_up _).imp fun {r s} hrs x hx y hy => ?_⟩
    · have h1 : (linesR n cells par c r).Pairwise (fun a b => lexlt a b = true) := (words_up n r).filter _
      refine List.Pairwise.imp_of_mem (fun {a b} ha hb hab => ?_) h1
      have ha := hR _ _ _ ha; have hb := hR _ _ _ hb
      exact .inr ⟨by omega, .inr ⟨by omega, hab⟩⟩
    · have hx := hR _ _ _ hx; have hy := hR _ _ _ hy
      exact .inr ⟨by omega, .inl (by omega)⟩
  · have hx := hC _ _ _ hx; have hy := hC _ _ _ hy
    exact .inl (by omega)
/-- a line that is not among the first ones comes after all of them -/
theorem after_take {α : Type} {R : α → α → Prop} {l : List α} (h : l.Pairwise R) {m : Nat} {w : α} (hw : w ∈ l) (hn : w ∉ l.take m) : m < l.length ∧ ∀ x ∈ l.take m, R x w := by
  have e := List.take_append_drop m l
  refine ⟨Nat.lt_of_not_le fun hle => hn (by rw [List.take_of_length_le hle]; exact hw), fun x hx => ?_⟩
  have h' := h
  rw [← e, List.pairwise_append] at h'
  refine h'.2.2 x hx w ?_
  rw [← e, List.mem_append] at hw
  exact hw.resolve_left hn
end Go.Abs.Wall
set_option maxRecDepth 100000
set_option linter.unusedVariables false
namespace Go.Abs.Wall
open Go Go.Abs Go.Proofs Go.Proofs.Ytbgnfchlelhbeaa.Br
/-! ### Evidence -/
structure Ev (cells : List Cel) (par : List Int) (r : Rst) : Prop where
  sl : r.signs.length ≤ 60
  dl : r.cells.length = r.signs.length
  ol : r.source.length = r.signs.length
  up : r.cells.Pairwise (· ≤ ·)
  bd : ∀ d ∈ r.cells, 0 ≤ d ∧ d < cells.length
  al : ∀ (p : Nat) (d x : Int), r.cells[p]? = some d → r.signs[p]? = some x → ∃ c, cells[d.toNat]? = some c ∧ allows c x = true
  cn : ∀ (q : Nat) (c : Cel), cells[q]? = some c → c.mn ≤ r.cells.count ((q : Nat) : Int) ∧ (r.cells.count ((q : Nat) : Int) : Int) ≤ c.mx
  src : SOK par r.source r.signs (-1)
  ch : max (r.signs.length : Int) par.length - tkn r.source ≤ r.changes
  cb : 0 ≤ r.changes ∧ r.changes ≤ 120
theorem restored_ev {n : Int} {cells : List Cel} {par w : List Int} (h : right n cells = true) (hp : par.length ≤ 60) (ha : acc cells 0 w = true) : Ev cells par (restored cells par w) := by
  have hf : fitB cells w = true := by rw [fit_acc h]; exact ha
  have hd : divide cells w = some (divS cells w 0) := by unfold divide; rw [if_pos hf]
  have hl := acc_len h ha
  have hs := src_ok par w 0
  have hb := dist_bd w par
  unfold restored
  rw [hd]
  refine ⟨hl.2, divS_length _ _ _ hf, srcGo_length _ _ _ (pairsGo_length _ _ _), divS_up _ _ 0, fun d hm => by have := divS_bd cells w 0 d hm; omega, fun p d x h1 h2 => ?_, fun q c hq => ?_, hs.1, hs.2, by simp only; omega⟩
  · obtain ⟨c, g1, g2⟩ := divS_allow cells w 0 hf p d x h1 h2
    exact ⟨c, by simpa using g1, g2⟩
  · have := divS_count cells w 0 hf q c hq
    simpa using this
theorem list_ev {l : Lst} {cells : List Cel} {par : List Int} {most : Int} : (listR l cells par most).length ≤ 64 ∧ ∀ r ∈ listR l cells par most, Ev cells par r := by
  unfold listR
  split
  · rename_i h
    obtain ⟨h1, h2, h3⟩ := list_iff.1 h
    obtain ⟨h4, h5⟩ := check1_iff.1 h1
    have hr := check_right h4
    refine ⟨by rw [List.length_map, List.length_take]; omega, fun r hm => ?_⟩
    obtain ⟨w, hw, rfl⟩ := List.mem_map.1 hm
    exact restored_ev hr (line_ok h5).1 ((mem_all hr (line_ok h5).1).1 (List.mem_of_mem_take hw)).2
  · simp
def cntZ (D : List Int) (i q : Nat) : Int := ((D.take i).count (q : Int) : Nat)
theorem cntZ_succ {D : List Int} {i q : Nat} {d : Int} (h : D[i]? = some d) (hd : 0 ≤ d) : cntZ D (i + 1) q = if q = d.toNat then cntZ D i q + 1 else cntZ D i q := by
  unfold cntZ
  rw [List.take_add_one, h, List.count_append]
  simp only [Option.toList_some, List.count_singleton]
  by_cases e : q = d.toNat
  · rw [if_pos e, if_pos (by simp; omega)]; omega
  · rw [if_neg e, if_neg (by simp; omega)]; omega
theorem cntZ_all (D : List Int) (q : Nat) : cntZ D D.length q = (D.count (q : Int) : Nat) := by unfold cntZ; rw [List.take_length]
theorem cntZ_bd (D : List Int) (i q : Nat) : 0 ≤ cntZ D i q ∧ cntZ D i q ≤ i := by
  unfold cntZ
  have h1 := List.count_le_length (a := (q : Int)) (l := D.take i)
  rw [List.length_take] at h1
  omega
def c3 : Cfg := ⟨[0, 1, 2, 3, 5, 6, 7, 8, 9, 10, 11, 12, 13, 14, 15, 16, 17, 18, 19, 24, 37, 42, 64, 72, 101, 122, 143, 150, 173, 180, 204, 216], [], [10], [], [(25, [0, 1, 2, 3, 4, 5, 6, 7, 8, 9, 10, 11, 12, 13, 14, 15, 16, 17], []), (30, [0, 1, 2, 3, 4, 5, 6, 7, 8, 9, 10, 11, 12, 13, 14, 15, 16, 17, 18, 19, 20, 21, 22], []), (37, [0, 1, 2, 3, 4, 5, 6, 7, 8, 9, 10, 11, 12, 13, 14, 15, 16, 17, 18, 19, 20, 21], [])], []⟩
theorem lawEvidence (l : Lst) (cells : List Cel) (par : List Int) (most : Int) (hl : LstFit l) (hc : CelsFit cells) (hp : par.length ≤ 1048576) : QCall Try.prog 3 [.agg (encLst l), .sl 3 none (cells.map encCel), .agg [.sl 1 none (ints par), .int .i64 most]] [] (.bool true) := by
  have hP : par.length ≤ LMAX := by unfold LMAX; omega
  refine QCall.of' ?_
  refine fcalls (F := Try.f3) c3 rfl rfl rfl mixed rfl fun X => ?_
  conv => whnf
  repeat (refine QCall.k0 (heavyW l cells par hl hc hP) ?_; conv => whnf)
  refine ⟨fun hd => ?_, fun hd => ?_⟩
  · conv => whnf
    repeat (refine QCall.k0 (works) ?_; conv => whnf)
  conv => whnf
  repeat (refine QCall.k0 (listW l cells par most hl hc hP) ?_; conv => whnf)
  refine ⟨fun hd => ?_, fun hd => ?_⟩ <;> simp at hd
  · conv => whnf
    repeat (refine QCall.k0 (works) ?_; conv => whnf)
  obtain ⟨hol, hev⟩ := list_ev (l := l) (cells := cells) (par := par) (most := most)
  obtain ⟨O, hO⟩ : ∃ O, O = listR l cells par most := ⟨_, rfl⟩
  rw [← hO] at hol hev
  conv => whnf
  rw [← hO]
  skip
  have hcl := hc.len
  refine tloop rfl mixed [1, 5, 7, 9] [] (fun m r h => ∃ (j : Nat), r = [(1, [], .sl 3 none (cells.map encCel)), (5, [], .iptr [.sl 1 none (ints par), .int .i64 most]), (7, [], .sl 4 none (O.map encRst)), (9, [], .int .i64 j)] ∧ h = [] ∧ m = O.length - j ∧ j ≤ O.length) ?_ ?_
  · conv => whnf
    exact ⟨_, _, Turn.refl _ _, _, 0, rfl, rfl, rfl, by omega⟩
  · rintro m r h ⟨j, rfl, rfl, rfl, hj⟩
    conv => whnf
    refine ⟨fun hf => ?_, fun hf => ?_⟩ <;> simp at hf
    · obtain ⟨x, hx⟩ := get_lt hf
      have ev := hev x (List.mem_of_getElem? hx)
      conv => whnf
      repeat ((first | refine ix (by assumption) ?_ | refine ⟨_, _, Rem.here _, ⟨Nat.le_of_ble_eq_true rfl, rfl⟩, ?_⟩ | intro (nb : Nat)); conv => whnf)
      have hdl := ev.dl; have hol2 := ev.ol; have hsl := ev.sl
      refine cF (by simp; omega) ?_
      conv => whnf
      skip
      refine ⟨⟨rfl, by omega, by simp; omega⟩, ?_⟩
      intro bM
      conv => whnf
      rw [show ((cells.map encCel).length : Int).toNat = cells.length from by simp, repC_F]
      skip
      refine sloop rfl mixed [1, 5, 7, 9, 10, 11, 12, 13, 14] [] (fun m r h => ∃ (i : Nat) (la tk : Int), r = [(1, [], .sl 3 none (cells.map encCel)), (5, [], .iptr [.sl 1 none (ints par), .int .i64 most]), (7, [], .sl 4 none (O.map encRst)), (9, [], .int .i64 j), (10, [], .iptr (encRst x)), (11, [], .osl bM 0 cells.length 1), (12, [], .int .i64 la), (13, [], .int .i64 tk), (14, [], .int .i64 i)] ∧ h = [(bM, .vec (rowsF cells.length fun q => .int .i64 (cntZ x.cells i q)))] ∧ m = x.signs.length - i ∧ i ≤ x.signs.length ∧ SOK par (x.source.drop i) (x.signs.drop i) la ∧ -1 ≤ la ∧ la ≤ 1048576 ∧ tk + tkn (x.source.drop i) = tkn x.source ∧ 0 ≤ tk ∧ tk ≤ i) ?_ ?_
      · conv => whnf
        exact ⟨_, 0, _, _, rfl, by simp [cntZ], rfl, by omega, ev.src, by omega, by omega, by simp, by omega, by omega⟩
      · rintro m r h ⟨i, la, tk, rfl, rfl, rfl, hi, hs1, hs2, hs3, hs4, hs5, hs6⟩
        conv => whnf
        refine ⟨fun hf => ?_, fun hf => ?_⟩ <;> simp at hf
        · obtain ⟨d, hd⟩ := get_lt (show i < x.cells.length by omega)
          obtain ⟨sg, hsg⟩ := get_lt hf
          obtain ⟨k, hk⟩ := get_lt (show i < x.source.length by omega)
          obtain ⟨c, hcc, hall⟩ := ev.al i d sg hd hsg
          have eC := ints_length x.cells
          have eP := ints_length par
          have hcs := hc.signs c (List.mem_of_getElem? hcc)
          obtain ⟨hd1, hd2⟩ := ev.bd d (List.mem_of_getElem? hd)
          conv => whnf
          repeat ((first | refine ⟨gP_of ⟨by omega, by omega⟩, ?_⟩ | refine ix (by assumption) ?_ | (refine ixg 0 ?_ ?_; (focus (conv => whnf; skip)); (focus (intro g0 g1; have g1 := of_decide_eq_true g1; show 0 ≤ _ ∧ _ < _; omega)))); conv => whnf)
          have hprev : (0 : Int) < (i : Int) → x.cells.getD ((i : Int) - 1).toNat 0 ≤ d := by
            intro h
            have hup := ev.up
            rw [List.pairwise_iff_getElem] at hup
            have h2 := hup (i - 1) i (by omega) (by omega) (by omega)
            have h3 := (List.getElem?_eq_some_iff.1 hd).2
            rw [h3] at h2
            rw [show ((i : Int) - 1).toNat = i - 1 from by omega, getD_lt (by omega)]
            exact h2
          refine cF (by
            simp only [List.length_map, Bool.or_eq_false_iff, Bool.and_eq_false_iff, decide_eq_false_iff_not]
            refine ⟨⟨by omega, by omega⟩, ?_⟩
            by_cases h : (0 : Int) < (i : Int)
            · right; have := hprev h; omega
            · left; exact h) ?_
          conv => whnf
          obtain ⟨q, rfl⟩ : ∃ q : Nat, d = (q : Int) := ⟨d.toNat, by omega⟩
          have hcz := cntZ_bd x.cells i q
          rw [Int.toNat_natCast] at hcc
          repeat ((first | refine ⟨gP_of ⟨by omega, by omega⟩, ?_⟩ | refine ix (by assumption) ?_ | (refine ixo (i := q) (by omega) ?_) | (refine ldoF (.int .i64 (cntZ x.cells i q)) (.head _) rfl ?_ ?_ ?_; (focus (first | omega | (simp <;> omega))); (focus (simp <;> (first | omega | (intro hq; omega)))))
                         | (refine stoF ?_ (.here _) ?_; (focus (first | omega | (simp <;> omega))))); conv => whnf)
          refine sloop rfl mixed [1, 5, 7, 9, 10, 11, 12, 13, 14, 15, 16, 17] [] (fun m r h => ∃ (p : Nat) (al : Bool), r = [(1, [], .sl 3 none (cells.map encCel)), (5, [], .iptr [.sl 1 none (ints par), .int .i64 most]), (7, [], .sl 4 none (O.map encRst)), (9, [], .int .i64 j), (10, [], .iptr (encRst x)), (11, [], .osl bM 0 cells.length 1), (12, [], .int .i64 la), (13, [], .int .i64 tk), (14, [], .int .i64 i), (15, [], .int .i64 q), (16, [], .bool al), (17, [], .int .i64 p)] ∧ h = [(bM, .vec (rowsF cells.length fun q => .int .i64 (cntZ x.cells (i + 1) q)))] ∧ m = c.signs.length - p ∧ p ≤ c.signs.length ∧ al = (decide (c.signs = []) || (c.signs.take p).contains sg)) ?_ ?_
          · conv => whnf
            refine ⟨_, 0, _, rfl, ?_, rfl, by omega, ?_⟩
            · refine congrArg (fun x => [(bM, Ob.vec x)]) (rowsF_congr fun q' _ => ?_)
              rw [cntZ_succ hd (by omega), Int.toNat_natCast, Nat.zero_add, Nat.mul_one]
              by_cases e : q' = q
              · subst e; rw [if_pos rfl, if_pos rfl]
              · rw [if_neg e, if_neg e]
            · simp
          · rintro m r h ⟨p, al, rfl, rfl, rfl, hp1, hal⟩
            conv => whnf
            repeat (refine ix (by assumption) ?_; conv => whnf)
            refine ⟨fun hf => ?_, fun hf => ?_⟩ <;> simp at hf
            · obtain ⟨s2, hs2'⟩ := get_lt hf
              conv => whnf
              repeat ((first | refine ⟨gP_of ⟨by omega, by omega⟩, ?_⟩ | refine ix (by assumption) ?_ | refine And.intro (by show drawOK (opsAt Try.f3 _) _ = true; decide +kernel) ?_); conv => whnf)
              exact ⟨_, by omega, p + 1, _, rfl, rfl, rfl, by omega, by rw [hal, List.take_add_one, hs2']; simp [Bool.or_assoc, eq_comm, -List.take_append_getElem]⟩
            · conv => whnf
              skip
              refine cF (by
                have : al = true := by rw [hal, List.take_of_length_le (by omega)]; exact hall
                rw [this]; rfl) ?_
              conv => whnf
              repeat (refine ix (by assumption) ?_; conv => whnf)
              rw [drop_cons hk, drop_cons hsg, SOK] at hs1
              rw [drop_cons hk, tkn] at hs4
              refine ⟨fun hq => ?_, fun hq => ?_⟩ <;> simp at hq
              · obtain ⟨_, k1, k2, k3, k4⟩ := hs1.resolve_left (fun h => hq h.1)
                rw [if_pos hq] at hs4
                have hpk : par[k.toNat]? = some (par.getD k.toNat 0) := by rw [getD_lt (by omega), List.getElem?_eq_getElem (by omega)]
                conv => whnf
                repeat ((first | refine ix (by assumption) ?_ | (refine ixn k.toNat (by omega) hpk ?_) | refine And.intro (by show drawOK (opsAt Try.f3 _) _ = true; decide +kernel) ?_); conv => whnf)
                refine cF (by
                  simp only [Bool.or_eq_false_iff, decide_eq_false_iff_not, Bool.not_eq_false', decide_eq_true_eq]
                  exact ⟨⟨by omega, by omega⟩, k3⟩) ?_
                conv => whnf
                repeat (refine ⟨gP_of ⟨by omega, by omega⟩, ?_⟩; conv => whnf)
                exact ⟨_, by omega, i + 1, k, _, rfl, rfl, rfl, by omega, k4, by omega, by omega, by omega, by omega, by omega⟩
              · have hs1 := (hs1.resolve_right (fun h => h.1 hq)).2
                rw [if_neg (by simpa using hq)] at hs4
                conv => whnf
                repeat (refine ⟨gP_of ⟨by omega, by omega⟩, ?_⟩; conv => whnf)
                exact ⟨_, by omega, i + 1, la, tk, rfl, rfl, rfl, by omega, hs1, by omega, by omega, by omega, by omega, by omega⟩
        · conv => whnf
          skip
          obtain rfl : i = x.signs.length := by omega
          have htk := tkn_bd x.source
          rw [drop_nil (by omega), tkn] at hs4
          refine sloop rfl mixed [1, 5, 7, 9, 10, 11, 13, 19] [] (fun m r h => ∃ (e : Nat), r = [(1, [], .sl 3 none (cells.map encCel)), (5, [], .iptr [.sl 1 none (ints par), .int .i64 most]), (7, [], .sl 4 none (O.map encRst)), (9, [], .int .i64 j), (10, [], .iptr (encRst x)), (11, [], .osl bM 0 cells.length 1), (13, [], .int .i64 tk), (19, [], .int .i64 e)] ∧ h = [(bM, .vec (rowsF cells.length fun q => .int .i64 (cntZ x.cells x.signs.length q)))] ∧ m = cells.length - e ∧ e ≤ cells.length) ?_ ?_
          · conv => whnf
            exact ⟨_, 0, rfl, rfl, rfl, by omega⟩
          · rintro m r h ⟨e, rfl, rfl, rfl, he⟩
            conv => whnf
            refine ⟨fun hg => ?_, fun hg => ?_⟩ <;> simp at hg
            · obtain ⟨c, hcc⟩ := get_lt hg
              have hcn := ev.cn e c hcc
              have hcz := cntZ_all x.cells e
              rw [hdl] at hcz
              conv => whnf
              repeat ((first | refine ix (by assumption) ?_ | (refine ixo (i := e) (by omega) ?_) | (refine ldoF (.int .i64 (cntZ x.cells x.signs.length e)) (.head _) rfl ?_ ?_ ?_; (focus (first | omega | (simp <;> omega))); (focus (simp <;> (first | omega | (intro hq; omega)))))
                             | refine And.intro (by show drawOK (opsAt Try.f3 _) _ = true; decide +kernel) ?_); conv => whnf)
              refine cF (by rw [hcz]; simp only [Bool.or_eq_false_iff, decide_eq_false_iff_not]; omega) ?_
              conv => whnf
              repeat (refine ⟨gP_of ⟨by omega, by omega⟩, ?_⟩; conv => whnf)
              exact ⟨_, by omega, e + 1, rfl, rfl, rfl, by omega⟩
            · conv => whnf
              have h1 := ev.ch; have h2 := ev.cb
              have e1 := ints_length x.signs
              have e2 := ints_length par
              repeat (refine ⟨gP_of ⟨by omega, by omega⟩, ?_⟩; conv => whnf)
              refine cF (by
                simp only [decide_eq_false_iff_not]; omega) ?_
              conv => whnf
              repeat (refine ⟨gP_of ⟨by omega, by omega⟩, ?_⟩; conv => whnf)
              exact ⟨_, _, Turn.drop (.here _), _, by omega, j + 1, rfl, rfl, rfl, by omega⟩
    · conv => whnf
      repeat (refine QCall.k0 (works) ?_; conv => whnf)
theorem argBy {x : AV} (h : ArgSh Try.prog B20 28 x) : ∃ (a : List Int) (k : Int), x = .agg [.sl 1 none (ints a), .int .i64 k] ∧ a.length ≤ 1048576 := by
  obtain ⟨xs, h, hx⟩ := h
  have hx : x = .agg xs := hx
  subst hx
  obtain ⟨ps, rfl, hp⟩ := sh_struct h rfl
  obtain ⟨y, z, rfl, h1, h2⟩ := sh2 hp
  obtain ⟨a, rfl, ha, _⟩ := shInts h1
  obtain ⟨k, rfl, hk⟩ := shInt h2
  exact ⟨a, k, rfl, ha⟩
end Go.Abs.Wall
set_option maxRecDepth 100000
set_option linter.unusedVariables false
namespace Go.Abs.Wall
open Go Go.Abs Go.Proofs Go.Proofs.Ytbgnfchlelhbeaa.Br
/-! ### Listed -/
def c44 : Cfg := ⟨[0, 1, 2, 3, 4, 5, 10, 22, 34, 47], [], [], [], [(8, [0, 1, 2, 3, 4, 5, 6, 7, 8, 9, 10], []), (9, [0, 1, 2, 3, 4, 5, 6, 7, 8, 9, 10, 11], [])], []⟩
theorem soonerW (a b : Rst) (ha : a.signs.length ≤ LMAX) (hb : b.signs.length ≤ LMAX) : QCall Try.prog 44 [.agg (encRst a), .agg (encRst b)] [] (.bool (sooner a b)) := by
  refine fcalls (F := Try.f44) c44 rfl rfl rfl mixed rfl fun X => ?_
  conv => whnf
  unfold LMAX at ha hb
  have e1 := ints_length a.signs
  have e2 := ints_length b.signs
  unfold sooner
  refine ⟨fun hd => ?_, fun hd => ?_⟩ <;> simp at hd
  · conv => whnf
    skip
    exact ⟨by rw [if_neg hd], rfl⟩
  rw [if_pos hd]
  conv => whnf
  skip
  refine ⟨fun hd2 => ?_, fun hd2 => ?_⟩ <;> simp at hd2
  · conv => whnf
    skip
    exact ⟨by rw [if_neg (show ¬ a.signs.length = b.signs.length by omega)]; simp, rfl⟩
  rw [if_pos (show a.signs.length = b.signs.length by omega)]
  conv => whnf
  refine sloop rfl mixed [2, 3, 5] [] (fun m r h => ∃ (i : Nat), r = [(2, [], .iptr (encRst a)), (3, [], .iptr (encRst b)), (5, [], .int .i64 i)] ∧ h = [] ∧ m = a.signs.length - i ∧ i ≤ a.signs.length ∧ lexlt a.signs b.signs = lexlt (a.signs.drop i) (b.signs.drop i)) ?_ ?_
  · conv => whnf
    exact ⟨_, 0, rfl, rfl, rfl, by omega, rfl⟩
  · rintro m r h ⟨i, rfl, rfl, rfl, hi, hr⟩
    conv => whnf
    refine ⟨fun hf => ?_, fun hf => ?_⟩ <;> simp at hf
    · obtain ⟨x, hx⟩ := get_lt hf
      obtain ⟨y, hy⟩ := get_lt (show i < b.signs.length by omega)
      rw [drop_cons hx, drop_cons hy, lexlt] at hr
      conv => whnf
      repeat ((first | refine ix (by assumption) ?_ | refine And.intro (by show drawOK (opsAt Try.f44 _) _ = true; decide +kernel) ?_); conv => whnf)
      refine ⟨fun he => ?_, fun he => ?_⟩ <;> simp at he
      · rw [if_neg he] at hr
        conv => whnf
        repeat ((first | refine ix (by assumption) ?_ | refine And.intro (by show drawOK (opsAt Try.f44 _) _ = true; decide +kernel) ?_); conv => whnf)
        exact ⟨by rw [hr], rfl⟩
      · rw [if_pos he] at hr
        conv => whnf
        repeat (refine ⟨gP_of ⟨by omega, by omega⟩, ?_⟩; conv => whnf)
        exact ⟨_, by omega, i + 1, rfl, rfl, rfl, by omega, hr⟩
    · have hr : lexlt a.signs b.signs = false := by rw [hr, List.drop_eq_nil_of_le (show a.signs.length ≤ i by omega)]; cases b.signs.drop i <;> rfl
      conv => whnf
      exact ⟨by rw [hr], rfl⟩
theorem verify_zero {l : Lst} {cells : List Cel} {par w : List Int} (h : checkErr1 l cells par = 0) (hw : w ∈ allLines l.signs.length cells par) : verifyErr l cells par (restored cells par w) = 0 := by
  obtain ⟨h1, h2⟩ := check1_iff.1 h
  have hr := check_right h1
  obtain ⟨g1, g2⟩ := (mem_all hr (line_ok h2).1).1 hw
  have gl := acc_len hr g2
  unfold verifyErr
  have h3 : lineErr l.signs.length w = 0 := by
    unfold lineErr
    rw [if_neg (by omega), if_neg]
    rw [Bool.not_eq_true, List.any_eq_false]
    intro s hs
    have := g1 s hs
    simp [inR]; omega
  have h4 : linesErr l.signs.length [par, w] = 0 := by rw [linesErr_two, if_neg (by simpa using h2)]; exact h3
  rw [restored_signs, if_neg (by simpa using h1), if_neg (by simpa using h4), if_neg, if_pos rfl]
  unfold divide; rw [fit_acc hr, if_pos g2]; simp
theorem argRival {x : AV} (h : ArgSh Try.prog B20 77 x) : ∃ (a : List Int) (k : Int) (b : List Int), x = .agg [.sl 1 none (ints a), .int .i64 k, .sl 1 none (ints b)] ∧ a.length ≤ 1048576 ∧ b.length ≤ 1048576 := by
  obtain ⟨xs, h, hx⟩ := h
  have hx : x = .agg xs := hx
  subst hx
  obtain ⟨ps, rfl, hp⟩ := sh_struct h rfl
  obtain ⟨y, z, u, rfl, h1, h2, h3⟩ := sh3 hp
  obtain ⟨a, rfl, ha, _⟩ := shInts h1
  obtain ⟨k, rfl, hk⟩ := shInt h2
  obtain ⟨b, rfl, hb, _⟩ := shInts h3
  exact ⟨a, k, b, rfl, ha, hb⟩
def c15 : Cfg := ⟨[0, 1, 2, 3, 5, 6, 7, 8, 10, 11, 13, 14, 15, 16, 21, 34, 50, 72, 101, 122, 141], [], [16], [], [(14, [0, 1, 2, 3, 4, 5, 6, 7, 8, 9, 10, 11, 12, 13, 14, 15, 16, 17, 18, 19, 20, 21, 22, 23, 24, 25, 26], []), (16, [0, 1, 2, 3, 4, 5, 6, 7, 8, 9, 10, 11], []), (19, [0, 1, 2, 3, 4, 5, 6, 7, 8, 9, 10, 11, 12, 13, 14], [])], []⟩
theorem lawListed (l : Lst) (cells : List Cel) (par : List Int) (most : Int) (ln : List Int) (hl : LstFit l) (hc : CelsFit cells) (hp : par.length ≤ 1048576) (hn : ln.length ≤ 1048576) :
    QCall Try.prog 15 [.agg (encLst l), .sl 3 none (cells.map encCel), .agg [.sl 1 none (ints par), .int .i64 most, .sl 1 none (ints ln)]] [] (.bool true) := by
  have hP : par.length ≤ LMAX := by unfold LMAX; omega
  have hN : ln.length ≤ LMAX := by unfold LMAX; omega
  refine QCall.of' ?_
  refine fcalls (F := Try.f15) c15 rfl rfl rfl mixed rfl fun X => ?_
  conv => whnf
  repeat (refine QCall.k0 (heavyW l cells par hl hc hP) ?_; conv => whnf)
  refine ⟨fun hd => ?_, fun hd => ?_⟩
  · conv => whnf
    repeat (refine QCall.k0 (works) ?_; conv => whnf)
  conv => whnf
  repeat (refine QCall.k0 (listW l cells par most hl hc hP) ?_; conv => whnf)
  refine ⟨fun hd => ?_, fun hd => ?_⟩ <;> simp at hd
  · have : listR l cells par most = [] := by unfold listR; rw [if_neg hd]
    rw [this]
    conv => whnf
    repeat (refine gcall (works) ?_; conv => whnf)
    rfl
  obtain ⟨k1, k2, k3⟩ := list_iff.1 hd
  obtain ⟨k4, k5⟩ := check1_iff.1 k1
  have kr := check_right k4
  have kp := (line_ok k5).1
  have hLR : listR l cells par most = ((allLines l.signs.length cells par).take most.toNat).map (restored cells par) := by unfold listR; rw [if_pos hd]
  obtain ⟨w0, ws, hw0⟩ := all_ne (par := par) (by omega) kr kp
  obtain ⟨A, hA⟩ : ∃ A, A = allLines l.signs.length cells par := ⟨_, rfl⟩
  have hup := all_up l.signs.length cells par
  have hall : ∀ w, w ∈ A ↔ ((∀ s ∈ w, 0 ≤ s ∧ s < l.signs.length) ∧ acc cells 0 w = true) := fun w => by rw [hA]; exact mem_all kr kp
  have hver : ∀ w ∈ A, verifyErr l cells par (restored cells par w) = 0 := fun w hw => verify_zero k1 (by rw [← hA]; exact hw)
  have hA1 : 1 ≤ A.length := by rw [hA, hw0]; simp
  rw [← hA] at hLR hup
  obtain ⟨T, hT⟩ : ∃ T, T = A.take most.toNat := ⟨_, rfl⟩
  rw [← hT] at hLR
  have hTl : 1 ≤ T.length ∧ (T.length : Int) ≤ most := by rw [hT, List.length_take]; omega
  have hTA : ∀ w ∈ T, w ∈ A := fun w hw => by rw [hT] at hw; exact List.mem_of_mem_take hw
  obtain ⟨O, hO⟩ : ∃ O, O = T.map (restored cells par) := ⟨_, rfl⟩
  rw [← hO] at hLR
  have hOl : O.length = T.length := by rw [hO]; simp
  have hAl : A.length ≤ A.length := Nat.le_refl _
  have hOi : ∀ (i : Nat) r, O[i]? = some r → ∃ t, T[i]? = some t ∧ r = restored cells par t := fun i r h => by
    rw [hO, List.getElem?_map] at h
    cases ht : T[i]? with
    | none => rw [ht] at h; cases h
    | some t => rw [ht] at h; cases h; exact ⟨t, rfl, rfl⟩
  have hTs : ∀ t ∈ T, t.length ≤ 60 := fun t ht => (acc_len kr ((hall t).1 (hTA t ht)).2).2
  have hOg : ∀ k, (O.getD k ⟨[], [], [], 0⟩).signs.length ≤ LMAX := fun k => by
    unfold LMAX
    rw [List.getD]
    cases hk : O[k]? with
    | none => simp
    | some r => obtain ⟨t, h1, rfl⟩ := hOi k r hk; have := hTs t (List.mem_of_getElem? h1); simp only [Option.getD_some, restored_signs]; omega
  have hTup : T.Pairwise (soonL par) := by rw [hT]; exact hup.sublist (List.take_sublist _ _)
  rw [hLR, hd]
  dsimp only
  conv => whnf
  skip
  refine cF (by simp; omega) ?_
  conv => whnf
  repeat ((first | refine QCall.k0 (wallAgrees l cells ln hl hc hN) ?_ | refine QCall.k0 (wallChanges l par ln hl hP hN) ?_); conv => whnf)
  refine sloop rfl mixed [1, 3, 5, 7, 10, 11, 13, 14, 15] [] (fun m r h => ∃ (i : Nat) (fd : Bool), r = [(1, [], .sl 3 none (cells.map encCel)), (3, [], .iptr (encLst l)), (5, [], .iptr [.sl 1 none (ints par), .int .i64 most, .sl 1 none (ints ln)]), (7, [], .sl 4 none (O.map encRst)), (10, [], .int .i64 (agrees l cells ln).2), (11, [], .int .i64 (changes l par ln).1), (13, [], .int .i64 (changes l par ln).2.2), (14, [], .bool fd), (15, [], .int .i64 i)] ∧ h = [] ∧ m = O.length - i ∧ i ≤ O.length ∧ fd = (T.take i).contains ln) ?_ ?_
  · conv => whnf
    exact ⟨_, 0, _, rfl, rfl, rfl, by omega, by simp⟩
  · rintro m r h ⟨i, fd, rfl, rfl, rfl, hi, hfd⟩
    conv => whnf
    refine ⟨fun hf => ?_, fun hf => ?_⟩ <;> simp at hf
    · obtain ⟨x, hx⟩ := get_lt hf
      obtain ⟨t, ht, hxt⟩ := hOi i x hx
      have htm := List.mem_of_getElem? ht
      have hxs : x.signs = t := by rw [hxt]; rfl
      have hxl : x.signs.length ≤ LMAX := by rw [hxs]; have := hTs t htm; unfold LMAX; omega
      have hv : verifyErr l cells par x = 0 := by rw [hxt]; exact hver t (hTA t htm)
      have hfit : RstFit x := by
        have e1 := restored_ev kr kp ((hall t).1 (hTA t htm)).2
        rw [← hxt] at e1
        have := e1.sl; have := e1.dl; have := e1.ol
        refine ⟨?_, ?_, ?_⟩ <;> unfold LMAX <;> omega
      conv => whnf
      repeat ((first | refine ⟨gP_of ⟨by omega, by omega⟩, ?_⟩ | refine ix (by assumption) ?_ | refine gcall (wallVerify l cells par x hl hc hP hfit) ?_ | (refine ixg ⟨[], [], [], 0⟩ ?_ ?_; (focus (conv => whnf; skip)); (focus (first | (intro g0 g1; have g1 := of_decide_eq_true g1; show 0 ≤ _ ∧ _ < _; omega) | (intro g1; have g1 := of_decide_eq_true g1; show 0 ≤ _ ∧ _ < _; omega))))
                     | refine gcall (soonerW _ _ (hOg _) hxl) ?_ | refine And.intro (by show drawOK (opsAt Try.f15 _) _ = true; decide +kernel) ?_); conv => whnf)
      have hso : (0 : Int) < (i : Int) → sooner (O.getD ((i : Int) - 1).toNat ⟨[], [], [], 0⟩) x = true := fun h => by
        rw [show ((i : Int) - 1).toNat = i - 1 from by omega]
        obtain ⟨y, hy⟩ := get_lt (show i - 1 < O.length by omega)
        obtain ⟨u, hu, hyu⟩ := hOi _ _ hy
        rw [List.getD, hy, Option.getD_some, hyu, hxt, sooner_iff]
        rw [List.pairwise_iff_getElem] at hTup
        have g1 := (List.getElem?_eq_some_iff.1 ht).2
        have g2 := (List.getElem?_eq_some_iff.1 hu).2
        have := hTup (i - 1) i (by omega) (by omega) (by omega)
        rw [g1, g2] at this; exact this
      refine cF (by
        simp only [hv, decide_true, Bool.not_true, Bool.false_or, Bool.and_eq_false_iff, decide_eq_false_iff_not, Bool.not_eq_false']
        by_cases h : (0 : Int) < (i : Int)
        · right; exact hso h
        · left; exact h) ?_
      conv => whnf
      repeat ((first | refine ⟨gP_of ⟨by omega, by omega⟩, ?_⟩ | refine ix (by assumption) ?_ | refine gcall (sameInts x.signs ln hxl hN) ?_ | refine And.intro (by show drawOK (opsAt Try.f15 _) _ = true; decide +kernel) ?_); conv => whnf)
      exact ⟨_, by omega, i + 1, _, rfl, rfl, rfl, by omega, by rw [hfd, List.take_add_one, ht, hxs]; simp [eq_comm]⟩
    · conv => whnf
      skip
      have hfd : fd = T.contains ln := by rw [hfd, List.take_of_length_le (by omega)]
      refine ⟨fun hq => ?_, fun hq => ?_⟩
      · simp only [Bool.and_eq_true, decide_eq_true_eq, Bool.not_eq_true'] at hq
        obtain ⟨⟨q1, q2⟩, q3⟩ := hq
        obtain ⟨a1, a2, a3, a4, a5⟩ := agrees_fit q1
        have hlA : ln ∈ A := (hall ln).2 ⟨(line_ok a3).2, a4⟩
        have hnT : ln ∉ T := fun h => by rw [hfd] at q3; simp [h] at q3
        rw [hT] at hnT
        obtain ⟨b1, b2⟩ := after_take hup hlA hnT
        rw [← hT] at b2
        have hTm : (T.length : Int) = most := by rw [hT, List.length_take]; omega
        have hch := changes_val q2
        conv => whnf
        rw [show (changes l par ln).1 = dist ln par from by rw [hch]]
        obtain ⟨y, hy⟩ := get_lt (show O.length - 1 < O.length by omega)
        obtain ⟨u, hu, hyu⟩ := hOi _ _ hy
        have hyl : y.signs.length ≤ LMAX := by have := hOg (O.length - 1); rw [List.getD, hy] at this; exact this
        have eO : (O.map encRst).length = O.length := by simp
        have n1 := VLe.nil (k := 1) (by decide)
        have hown : QCall Try.prog 44 [.agg [.sl 1 none (ints ln), .nilS, .nilS, .int .i64 (dist ln par)], .agg (encRst y)] [] (.bool (sooner ⟨ln, [], [], dist ln par⟩ y)) :=
          QCall.args (soonerW ⟨ln, [], [], dist ln par⟩ y hN hyl) (.cons (.agg (.cons (VLe.refl _) (.cons n1 (.cons n1 (VsLe.refl _))))) (VsLe.refl _))
        have hno : sooner ⟨ln, [], [], dist ln par⟩ y = false := by
          have h1 := soonL_asym (b2 u (List.mem_of_getElem? hu))
          rw [← sooner_iff (cells := cells), ← hyu] at h1
          rw [Bool.not_eq_true] at h1
          exact h1
        repeat ((first | refine ⟨gP_of ⟨by omega, by omega⟩, ?_⟩ | (refine ixn (O.length - 1) (by simp; omega) hy ?_) | refine gcall (hown) ?_ | refine ⟨_, _, Rem.here _, ⟨Nat.le_of_ble_eq_true rfl, rfl⟩, ?_⟩
                       | refine And.intro (by show drawOK (opsAt Try.f15 _) _ = true; decide +kernel) ?_ | intro (nb : Nat)); conv => whnf)
        refine cF (by rw [hno]; simp only [Bool.or_false, decide_eq_false_iff_not]; omega) ?_
        conv => whnf
        repeat (refine QCall.k0 (works) ?_; conv => whnf)
      · conv => whnf
        repeat (refine QCall.k0 (works) ?_; conv => whnf)
end Go.Abs.Wall
