/- What is proved: small laws for the walks of this seat, and contracts of its functions. No condition but those each theorem names. -/
import Derived.Test.YtbgnfchlelhbeaaM8
set_option maxRecDepth 100000
set_option linter.unusedVariables false
namespace Go.Abs.Wall
open Go Go.Abs Go.Proofs
/-! ### theory: what a restoration says of its line -/
theorem divS_low : ∀ (cs : List Cel) (l : List Int) (i : Nat), ∀ d ∈ divS cs l i, (i : Int) ≤ d
  | [], l, i => by simp [divS]
  | c :: cs, l, i => by
    intro d hd
    rw [divS, List.mem_append] at hd
    rcases hd with hd | hd
    · rw [(List.mem_replicate.1 hd).2]; exact Int.le_refl _
    · have := divS_low cs _ (i + 1) d hd; omega
theorem divS_up : ∀ (cs : List Cel) (l : List Int) (i : Nat), (divS cs l i).Pairwise (· ≤ ·)
  | [], l, i => by simp [divS]
  | c :: cs, l, i => by
    rw [divS, List.pairwise_append]
    refine ⟨?_, divS_up cs _ (i + 1), fun a ha b hb => ?_⟩
    · rw [List.pairwise_replicate]; exact .inr (Int.le_refl _)
    · rw [(List.mem_replicate.1 ha).2]; have := divS_low cs _ (i + 1) b hb; omega
theorem divS_allow : ∀ (cs : List Cel) (l : List Int) (i : Nat), fitB cs l = true → ∀ (p : Nat) (d x : Int), (divS cs l i)[p]? = some d → l[p]? = some x → ∃ c, cs[(d - i).toNat]? = some c ∧ allows c x = true
  | [], l, i, _, p, d, x, h, _ => by simp [divS] at h
  | c :: cs, l, i, hf, p, d, x, h, hx => by
    obtain ⟨m0, h0⟩ := fitB_cons.1 hf
    rcases most_spec c (fitB cs) l with ⟨e, hn⟩ | ⟨m, e, h1, hm⟩
    · exact absurd h0 (hn m0)
    · rw [divS, e, Int.toNat_natCast] at h
      obtain ⟨_, _, h2, h3, h4⟩ := h1
      by_cases hp : p < m
      · rw [List.getElem?_append_left (by simpa using hp), List.getElem?_replicate, if_pos hp] at h
        cases h
        refine ⟨c, by rw [show ((i : Int) - i).toNat = 0 from by omega]; rfl, h3 x (List.mem_of_getElem? (i := p) (by rw [List.getElem?_take, if_pos hp]; exact hx))⟩
      · rw [List.getElem?_append_right (by simp; omega), List.length_replicate] at h
        have hlow := divS_low cs _ (i + 1) d (List.mem_of_getElem? h)
        obtain ⟨c', g1, g2⟩ := divS_allow cs _ (i + 1) h4 (p - m) d x h (by rw [List.getElem?_drop, show m + (p - m) = p from by omega]; exact hx)
        refine ⟨c', ?_, g2⟩
        rw [show (d - (i : Int)).toNat = (d - ((i + 1 : Nat) : Int)).toNat + 1 from by omega, List.getElem?_cons_succ]
        exact g1
theorem divS_count : ∀ (cs : List Cel) (l : List Int) (i : Nat), fitB cs l = true → ∀ (q : Nat) (c : Cel), cs[q]? = some c → c.mn ≤ (divS cs l i).count ((i + q : Nat) : Int) ∧ ((divS cs l i).count ((i + q : Nat) : Int) : Int) ≤ c.mx
  | [], l, i, _, q, c, h => by simp at h
  | c0 :: cs, l, i, hf, q, c, h => by
    obtain ⟨m0, h0⟩ := fitB_cons.1 hf
    rcases most_spec c0 (fitB cs) l with ⟨e, hn⟩ | ⟨m, e, h1, hm⟩
    · exact absurd h0 (hn m0)
    · rw [divS, e, Int.toNat_natCast]
      obtain ⟨g1, g2, h2, h3, h4⟩ := h1
      rw [List.count_append, List.count_replicate]
      cases q with
      | zero =>
        rw [List.getElem?_cons_zero] at h
        cases h
        have : (divS cs (l.drop m) (i + 1)).count ((i + 0 : Nat) : Int) = 0 := List.count_eq_zero.2 fun hd => by have := divS_low cs _ (i + 1) _ hd; omega
        rw [show ((i : Int) + 1) = ((i + 1 : Nat) : Int) from by omega] at *
        rw [this, Nat.add_zero, if_pos (by simp)]
        omega
      | succ q =>
        rw [List.getElem?_cons_succ] at h
        have := divS_count cs (l.drop m) (i + 1) h4 q c h
        rw [if_neg (by simp; omega), Nat.zero_add]
        rw [show i + (q + 1) = i + 1 + q from by omega]
        exact this
def tkn : List Int → Int
  | [] => 0
  | k :: l => (if k ≠ -1 then 1 else 0) + tkn l
/-- sources: rising, and of equal signs -/
def SOK (par : List Int) : List Int → List Int → Int → Prop
  | k :: S, x :: w, last => (k = -1 ∧ SOK par S w last) ∨ (k ≠ -1 ∧ last < k ∧ k < par.length ∧ par.getD k.toNat 0 = x ∧ SOK par S w k)
  | _, _, _ => True
theorem SOK.weak (par : List Int) : ∀ (S w : List Int) (a b : Int), a ≤ b → SOK par S w b → SOK par S w a
  | [], w, a, b, h, _ => by cases w <;> trivial
  | k :: S, [], a, b, h, _ => trivial
  | k :: S, x :: w, a, b, h, hs => by
    rw [SOK] at hs ⊢
    rcases hs with ⟨h1, h2⟩ | ⟨h1, h2, h3, h4, h5⟩
    · exact .inl ⟨h1, SOK.weak par S w a b h h2⟩
    · exact .inr ⟨h1, by omega, h3, h4, h5⟩
theorem src_ok (P : List Int) : ∀ (l : List Int) (j : Nat), SOK P (srcGo P (pairsGo l (P.drop j) j) l) l ((j : Int) - 1) ∧ (max (l.length : Int) ((P.drop j).length : Int)) - tkn (srcGo P (pairsGo l (P.drop j) j) l) ≤ dist l (P.drop j)
  | [], j => by
    unfold pairsGo srcGo
    refine ⟨trivial, ?_⟩
    rw [tkn, dist_nl]; simp only [List.length_nil]; omega
  | a :: l, j => by
    rw [pairsGo]
    split
    · rename_i hn
      have hp := pick_none hn
      obtain ⟨i1, i2⟩ := src_ok P l j
      rw [srcGo, if_neg (by omega)]
      rcases dist_pick a l (P.drop j) with ⟨o, b, h1, h2⟩ | h2
      · exact absurd (by simpa using h2) (hp o b h1)
      · refine ⟨.inl ⟨rfl, i1⟩, ?_⟩
        rw [tkn, if_neg (by simp)]
        simp only [List.length_cons] at *; omega
    · rename_i o hs
      obtain ⟨o', b, h1, h2, h3⟩ := pick_some hs
      obtain rfl : o = o' := by omega
      obtain ⟨i1, i2⟩ := src_ok P l (j + o + 1)
      have e1 : (P.drop j).drop (o + 1) = P.drop (j + o + 1) := by rw [List.drop_drop]; congr 1
      have hPo : P[j + o]? = some b := by rw [List.getElem?_drop] at h2; exact h2
      have hlt := (List.getElem?_eq_some_iff.1 hPo).1
      have hgd : P.getD ((j + o : Nat) : Int).toNat 0 = b := by rw [Int.toNat_natCast]; simp [List.getD, hPo]
      rw [e1] at h3 ⊢
      have hd := differ01 a b
      rw [srcGo, hgd]
      by_cases hab : a = b
      · have : differ a b = 0 := differ_zero.2 hab
        rw [if_neg (by rintro ⟨_, h⟩; exact h hab.symm)]
        refine ⟨.inr ⟨by omega, by omega, by omega, by rw [hgd, hab], by
          rw [show (((j + o : Nat) : Int)) = ((j + o + 1 : Nat) : Int) - 1 from by omega]; exact i1⟩, ?_⟩
        rw [tkn, if_pos (by omega)]
        simp only [List.length_cons, List.length_drop] at *
        omega
      · have : differ a b = 1 := by unfold differ; rw [if_neg hab]
        rw [if_pos ⟨by omega, fun h => hab h.symm⟩]
        refine ⟨.inl ⟨rfl, SOK.weak P _ _ _ _ (by omega) i1⟩, ?_⟩
        rw [tkn, if_neg (by simp)]
        simp only [List.length_cons, List.length_drop] at *
        omega
end Go.Abs.Wall
set_option maxRecDepth 100000
set_option linter.unusedVariables false
namespace Go.Abs.Wall
open Go Go.Abs Go.Proofs
/-! ### theory: the order of the lines -/
def lexlt : List Int → List Int → Bool
  | a :: l, b :: p => if a = b then lexlt l p else decide (a < b)
  | _, _ => false
def soonL (par a b : List Int) : Prop := dist a par < dist b par ∨ (dist a par = dist b par ∧ (a.length < b.length ∨ (a.length = b.length ∧ lexlt a b = true)))
theorem upto_up (n : Int) : (upto n).Pairwise (· < ·) := by
  unfold upto
  rw [List.pairwise_map]
  exact List.pairwise_lt_range.imp fun h => by omega
theorem words_up (n : Int) : ∀ r : Nat, (words n r).Pairwise (fun a b => lexlt a b = true)
  | 0 => by rw [words]; simp
  | r + 1 => by
    rw [words, List.pairwise_flatMap]
    refine ⟨fun s _ => ?_, (upto_up n).imp fun {s t} hst x hx y hy => ?_⟩
    · rw [List.pairwise_map]
      exact (words_up n r).imp fun h => by rw [lexlt, if_pos rfl]; exact h
    · obtain ⟨x', _, rfl⟩ := List.mem_map.1 hx
      obtain ⟨y', _, rfl⟩ := List.mem_map.1 hy
      rw [lexlt, if_neg (by omega)]
      simpa using hst
theorem range_up (n : Nat) : (List.range n).Pairwise (· < ·) := List.pairwise_lt_range
theorem all_up (n : Int) (cells : List Cel) (par : List Int) : (allLines n cells par).Pairwise (soonL par) := by
  have hR : ∀ (c : Int) (r : Nat) w, w ∈ linesR n cells par c r → w.length = r ∧ dist w par = c := fun c r w h => by
    unfold linesR at h
    obtain ⟨h1, h2⟩ := List.mem_filter.1 h
    simp only [Bool.and_eq_true, decide_eq_true_eq] at h2
    exact ⟨words_len w h1, h2.2⟩
  have hC : ∀ (c : Int) (K : Nat) w, w ∈ linesC n cells par K c → dist w par = c := fun c K w h => by
    unfold linesC at h
    obtain ⟨r, _, h⟩ := List.mem_flatMap.1 h
    exact (hR c r w h).2
  unfold allLines linesU
  rw [List.pairwise_flatMap]
  refine ⟨fun c _ => ?_, (range_up 200).imp fun {c d} hcd x hx y hy => ?_⟩
  · unfold linesC
    rw [List.pairwise_flatMap]
    refine ⟨fun r _ => ?_, (range_up _).imp fun {r s} hrs x hx y hy => ?_⟩
    · have h1 : (linesR n cells par c r).Pairwise (fun a b => lexlt a b = true) := (words_up n r).filter _
      refine List.Pairwise.imp_of_mem (fun {a b} ha hb hab => ?_) h1
      have ha := hR _ _ _ ha; have hb := hR _ _ _ hb
      exact .inr ⟨by omega, .inr ⟨by omega, hab⟩⟩
    · have hx := hR _ _ _ hx; have hy := hR _ _ _ hy
      exact .inr ⟨by omega, .inl (by omega)⟩
  · have hx := hC _ _ _ hx; have hy := hC _ _ _ hy
    exact .inl (by omega)
end Go.Abs.Wall
set_option maxRecDepth 100000
set_option linter.unusedVariables false
namespace Go.Abs.Wall
open Go Go.Abs Go.Proofs Go.Proofs.Ytbgnfchlelhbeaa.Br
/-! ### Evidence -/
structure Ev (cells : List Cel) (par : List Int) (r : Rst) : Prop where
  sl : r.signs.length ≤ 60
  dl : r.cells.length = r.signs.length
  ol : r.source.length = r.signs.length
  up : r.cells.Pairwise (· ≤ ·)
  bd : ∀ d ∈ r.cells, 0 ≤ d ∧ d < cells.length
  al : ∀ (p : Nat) (d x : Int), r.cells[p]? = some d → r.signs[p]? = some x → ∃ c, cells[d.toNat]? = some c ∧ allows c x = true
  cn : ∀ (q : Nat) (c : Cel), cells[q]? = some c → c.mn ≤ r.cells.count ((q : Nat) : Int) ∧ (r.cells.count ((q : Nat) : Int) : Int) ≤ c.mx
  src : SOK par r.source r.signs (-1)
  ch : max (r.signs.length : Int) par.length - tkn r.source ≤ r.changes
  cb : 0 ≤ r.changes ∧ r.changes ≤ 120
theorem restored_ev {n : Int} {cells : List Cel} {par w : List Int} (h : right n cells = true) (hp : par.length ≤ 60) (ha : acc cells 0 w = true) : Ev cells par (restored cells par w) := by
  have hf : fitB cells w = true := by rw [fit_acc h]; exact ha
  have hd : divide cells w = some (divS cells w 0) := by unfold divide; rw [if_pos hf]
  have hl := acc_len h ha
  have hs := src_ok par w 0
  have hb := dist_bd w par
  unfold restored
  rw [hd]
  refine ⟨hl.2, divS_length _ _ _ hf, srcGo_length _ _ _ (pairsGo_length _ _ _), divS_up _ _ 0, fun d hm => by have := divS_bd cells w 0 d hm; omega, fun p d x h1 h2 => ?_, fun q c hq => ?_, hs.1, hs.2, by simp only; omega⟩
  · obtain ⟨c, g1, g2⟩ := divS_allow cells w 0 hf p d x h1 h2
    exact ⟨c, by simpa using g1, g2⟩
  · have := divS_count cells w 0 hf q c hq
    simpa using this
def c3 : Cfg := ⟨[0, 1, 2, 3, 5, 6, 7, 8, 9, 10, 11, 12, 13, 14, 15, 16, 17, 18, 19, 24, 37, 42, 64, 72, 101, 122, 143, 150, 173, 180, 204, 216], [], [10], [], [(25, [0, 1, 2, 3, 4, 5, 6, 7, 8, 9, 10, 11, 12, 13, 14, 15, 16, 17], []), (30, [0, 1, 2, 3, 4, 5, 6, 7, 8, 9, 10, 11, 12, 13, 14, 15, 16, 17, 18, 19, 20, 21, 22], []), (37, [0, 1, 2, 3, 4, 5, 6, 7, 8, 9, 10, 11, 12, 13, 14, 15, 16, 17, 18, 19, 20, 21], [])], []⟩
end Go.Abs.Wall
set_option maxRecDepth 100000
set_option linter.unusedVariables false
namespace Go.Abs.Wall
open Go Go.Abs Go.Proofs Go.Proofs.Ytbgnfchlelhbeaa.Br
/-! ### Listed -/
end Go.Abs.Wall

