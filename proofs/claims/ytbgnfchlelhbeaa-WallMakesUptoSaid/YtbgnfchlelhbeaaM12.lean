/- What is proved: small laws for the walks of this seat, and contracts of its functions. No condition but those each theorem names. -/
import Derived.Test.YtbgnfchlelhbeaaM10
import Derived.Test.YtbgnfchlelhbeaaM9
import Derived.Test.YtbgnfchlelhbeaaM8
set_option maxRecDepth 100000
set_option linter.unusedVariables false
set_option linter.unusedSimpArgs false
namespace Go.Abs.Wall
open Go Go.Abs Go.Proofs
/-! ### theory: the specification's search for lines -/
/-- the least changes that must follow: spot (i, k), j of the parallel gone, r signs to come -/
def bR (cells : List Cel) (par : List Int) (i k j r : Nat) : Int :=
  if hi : i < cells.length then
    have b0 : Int := if (cells.getD i c0_).mn ≤ k then min far (bR cells par (i + 1) 0 j r) else far
    have b1 : Int := if hj : j < par.length then min b0 (1 + bR cells par i k (j + 1) r) else b0
    if hr : 0 < r ∧ (k : Int) < (cells.getD i c0_).mx then
      (if hj : j < par.length then min (min b1 (1 + bR cells par i (k + 1) j (r - 1))) ((if allows (cells.getD i c0_) (par.getD j 0) = true then 0 else 1) + bR cells par i (k + 1) (j + 1) (r - 1)) else min b1 (1 + bR cells par i (k + 1) j (r - 1)))
    else b1
  else if r = 0 then (par.length : Int) - j else far
termination_by (cells.length - i) + (par.length - j) + r
theorem far_eq : far = 1048576 := rfl
theorem bR_end {cells : List Cel} {par : List Int} {i k j r : Nat} (hi : ¬ i < cells.length) : bR cells par i k j r = if r = 0 then (par.length : Int) - j else far := by rw [bR, dif_neg hi]
theorem bR_bd (cells : List Cel) (par : List Int) (hp : par.length ≤ 60) (i k j r : Nat) (hj : j ≤ par.length) : 0 ≤ bR cells par i k j r ∧ bR cells par i k j r ≤ far ∧ (r = 0 → (par.length : Int) - j ≤ bR cells par i k j r) := by
  have hfar := far_eq
  by_cases hi : i < cells.length
  · have h1 := bR_bd cells par hp (i + 1) 0 j r hj
    rw [bR, dif_pos hi]
    simp only
    by_cases hjl : j < par.length
    · have h2 := bR_bd cells par hp i k (j + 1) r hjl
      rw [dif_pos hjl, dif_pos hjl]
      by_cases hr : 0 < r ∧ (k : Int) < (cells.getD i c0_).mx
      · have h3 := bR_bd cells par hp i (k + 1) j (r - 1) hj
        have h4 := bR_bd cells par hp i (k + 1) (j + 1) (r - 1) hjl
        rw [dif_pos hr]
        split <;> split <;> omega
      · rw [dif_neg hr]
        split <;> omega
    · rw [dif_neg hjl, dif_neg hjl]
      by_cases hr : 0 < r ∧ (k : Int) < (cells.getD i c0_).mx
      · have h3 := bR_bd cells par hp i (k + 1) j (r - 1) hj
        rw [dif_pos hr]
        split <;> omega
      · rw [dif_neg hr]
        split <;> omega
  · rw [bR_end hi]
    split <;> omega
termination_by (cells.length - i) + (par.length - j) + r
/-- no way to the end: the bound says so -/
theorem bR_far (cells : List Cel) (par : List Int) (hp : par.length ≤ 60) (i k j : Nat) (hj : j ≤ par.length) (ha : accP cells ((i : Int), (k : Int)) [] = false) : far ≤ bR cells par i k j 0 := by
  have hfar := far_eq
  by_cases hi : i < cells.length
  · have hc : cells[i]? = some (cells.getD i c0_) := by rw [getD_lt hi, List.getElem?_eq_getElem hi]
    rw [accP_nil (p := ((i : Int), (k : Int))) (c := cells.getD i c0_) (by simp) hc] at ha
    have h1 : (cells.getD i c0_).mn ≤ k → far ≤ bR cells par (i + 1) 0 j 0 := fun h => by
      refine bR_far cells par hp (i + 1) 0 j hj ?_
      dsimp only at ha
      rw [decide_eq_true h, Bool.true_and] at ha
      exact ha
    rw [bR, dif_pos hi]
    simp only
    rw [dif_neg (by omega)]
    by_cases hjl : j < par.length
    · have h2 := bR_far cells par hp i k (j + 1) hjl (by rw [accP_nil (p := ((i : Int), (k : Int))) (c := cells.getD i c0_) (by simp) hc]; exact ha)
      rw [dif_pos hjl]
      split
      · rename_i h; have := h1 h; omega
      · omega
    · rw [dif_neg hjl]
      split
      · rename_i h; have := h1 h; omega
      · omega
  · rw [show ((i : Int), (k : Int)) = ((i : Int), (k : Int)) from rfl] at ha
    unfold accP at ha
    rw [Int.toNat_natCast, List.drop_eq_nil_of_le (by omega), acc] at ha
    cases ha
termination_by (cells.length - i) + (par.length - j)
/-- what follows costs at least the bound -/
theorem bR_le (cells : List Cel) (par : List Int) (i k j : Nat) (w : List Int) (hj : j ≤ par.length) (ha : accP cells ((i : Int), (k : Int)) w = true) : bR cells par i k j w.length ≤ dist w (par.drop j) := by
  by_cases hi : i < cells.length
  · have hc : cells[i]? = some (cells.getD i c0_) := by rw [getD_lt hi, List.getElem?_eq_getElem hi]
    have hcase : ((cells.getD i c0_).mn ≤ k ∧ accP cells (((i + 1 : Nat) : Int), ((0 : Nat) : Int)) w = true) ∨ ∃ s w', w = s :: w' ∧ (k : Int) < (cells.getD i c0_).mx ∧ allows (cells.getD i c0_) s = true ∧ accP cells ((i : Int), ((k + 1 : Nat) : Int)) w' = true := by
      cases w with
      | nil =>
        rw [accP_nil (p := ((i : Int), (k : Int))) (c := cells.getD i c0_) (by simp) hc] at ha
        simp only [Bool.and_eq_true, decide_eq_true_eq] at ha
        exact .inl ⟨ha.1, ha.2⟩
      | cons s w' =>
        rw [accP_cons (p := ((i : Int), (k : Int))) (c := cells.getD i c0_) (by simp) hc] at ha
        simp only [Bool.or_eq_true, Bool.and_eq_true, decide_eq_true_eq] at ha
        rcases ha with ha | ha
        · exact .inl ⟨ha.1, ha.2⟩
        · exact .inr ⟨s, w', rfl, ha.1.1, ha.1.2, ha.2⟩
    have hj1 : ∀ h : j < par.length, bR cells par i k j w.length ≤ 1 + bR cells par i k (j + 1) w.length := fun h => by
      rw [bR.eq_1 cells par i k j, dif_pos hi]
      simp only
      rw [dif_pos h, dif_pos h]
      split <;> split <;> omega
    rcases hcase with ⟨hmn, he⟩ | ⟨s, w', hw, hk, hal, he⟩
    · have ih := bR_le cells par (i + 1) 0 j w hj he
      refine Int.le_trans ?_ ih
      rw [bR.eq_1 cells par i k j, dif_pos hi]
      simp only
      rw [if_pos hmn]
      split <;> split <;> (try split) <;> omega
    · have hwl : w'.length + 1 = w.length := by rw [hw]; rfl
      have ih1 := bR_le cells par i (k + 1) j w' hj he
      have ih2' : ∀ h : j < par.length, bR cells par i (k + 1) (j + 1) w'.length ≤ dist w' (par.drop (j + 1)) := fun h => bR_le cells par i (k + 1) (j + 1) w' h he
      have ih3' : ∀ h : j < par.length, bR cells par i k (j + 1) w.length ≤ dist w (par.drop (j + 1)) := fun h => bR_le cells par i k (j + 1) w h ha
      subst hw
      have g1 : bR cells par i k j (s :: w').length ≤ 1 + bR cells par i (k + 1) j w'.length := by
        rw [bR.eq_1 cells par i k j, dif_pos hi]
        simp only [List.length_cons, Nat.add_sub_cancel]
        rw [dif_pos ⟨by omega, hk⟩]
        split <;> split <;> omega
      by_cases hjl : j < par.length
      · have ih2 := ih2' hjl
        have ih3 := ih3' hjl
        have g2 : bR cells par i k j (s :: w').length ≤ (if allows (cells.getD i c0_) (par.getD j 0) = true then 0 else 1) + bR cells par i (k + 1) (j + 1) w'.length := by
          rw [bR.eq_1 cells par i k j, dif_pos hi]
          simp only [List.length_cons, Nat.add_sub_cancel]
          rw [dif_pos ⟨by omega, hk⟩, dif_pos hjl, dif_pos hjl]
          split <;> split <;> omega
        have g3 := hj1 hjl
        have hd : (if allows (cells.getD i c0_) (par.getD j 0) = true then (0 : Int) else 1) ≤ differ s (par.getD j 0) := by
          by_cases e : s = par.getD j 0
          · rw [← e, if_pos hal, differ_zero.2 rfl]; exact Int.le_refl _
          · have : differ s (par.getD j 0) = 1 := by unfold differ; rw [if_neg e]
            split <;> omega
        rw [dist_drop_cons s w' hjl]
        omega
      · rw [List.drop_eq_nil_of_le (by omega)] at ih1 ⊢
        rw [dist_nil] at ih1 ⊢
        simp only [List.length_cons] at g1 ⊢
        omega
  · have hw : w = [] := by
      unfold accP at ha
      rw [Int.toNat_natCast, List.drop_eq_nil_of_le (by omega), acc] at ha
      simpa using ha
    subst hw
    rw [bR_end hi, if_pos (by rfl), dist_nl, List.length_drop]; omega
termination_by (cells.length - i) + (par.length - j) + w.length
end Go.Abs.Wall
set_option maxRecDepth 100000
set_option linter.unusedVariables false
namespace Go.Abs.Wall
open Go Go.Abs Go.Proofs
/-! ### theory: the lines of the specification -/
def bestJ (cells : List Cel) (par : List Int) (p : Pos) (r : Nat) : List Int → Nat → Int → Int
  | [], _, b => b
  | v :: row, j, b => bestJ cells par p r row (j + 1) (min b (v + bR cells par p.1.toNat p.2.toNat j r))
def bestS (cells : List Cel) (par row : List Int) (r : Nat) : List Pos → Int → Int
  | [], b => b
  | p :: ps, b => bestS cells par row r ps (bestJ cells par p r row 0 b)
theorem bestJ_le (cells : List Cel) (par : List Int) (p : Pos) (r : Nat) : ∀ (row : List Int) (j : Nat) (b : Int), bestJ cells par p r row j b ≤ b ∧ ∀ k v, row[k]? = some v → bestJ cells par p r row j b ≤ v + bR cells par p.1.toNat p.2.toNat (j + k) r
  | [], j, b => ⟨Int.le_refl _, fun k v h => by cases h⟩
  | v :: row, j, b => by
    obtain ⟨h1, h2⟩ := bestJ_le cells par p r row (j + 1) (min b (v + bR cells par p.1.toNat p.2.toNat j r))
    rw [bestJ]
    refine ⟨by omega, fun k x hk => ?_⟩
    cases k with
    | zero =>
      have hxv : v = x := by simpa using hk
      subst hxv
      simp only [Nat.add_zero]; omega
    | succ k => have := h2 k x (by simpa using hk); rw [show j + (k + 1) = j + 1 + k from by omega]; exact this
theorem bestJ_ge (cells : List Cel) (par : List Int) (p : Pos) (r : Nat) (L : Int) : ∀ (row : List Int) (j : Nat) (b : Int), L ≤ b → (∀ k v, row[k]? = some v → L ≤ v + bR cells par p.1.toNat p.2.toNat (j + k) r) → L ≤ bestJ cells par p r row j b
  | [], j, b, h, _ => h
  | v :: row, j, b, h, hh => by
    rw [bestJ]
    have h0 := hh 0 v rfl
    rw [Nat.add_zero] at h0
    exact bestJ_ge cells par p r L row (j + 1) _ (by omega) fun k x hk => by have := hh (k + 1) x (by simpa using hk); rwa [show j + (k + 1) = j + 1 + k from by omega] at this
theorem bestS_le (cells : List Cel) (par row : List Int) (r : Nat) : ∀ (ps : List Pos) (b : Int), bestS cells par row r ps b ≤ b ∧ ∀ p ∈ ps, ∀ k v, row[k]? = some v → bestS cells par row r ps b ≤ v + bR cells par p.1.toNat p.2.toNat k r
  | [], b => ⟨Int.le_refl _, fun p h => by cases h⟩
  | q :: ps, b => by
    obtain ⟨h1, h2⟩ := bestS_le cells par row r ps (bestJ cells par q r row 0 b)
    obtain ⟨g1, g2⟩ := bestJ_le cells par q r row 0 b
    rw [bestS]
    refine ⟨by omega, fun p hp k v hk => ?_⟩
    rcases List.mem_cons.1 hp with rfl | hp
    · have := g2 k v hk; rw [Nat.zero_add] at this; omega
    · exact h2 p hp k v hk
theorem bestS_ge (cells : List Cel) (par row : List Int) (r : Nat) (L : Int) : ∀ (ps : List Pos) (b : Int), L ≤ b → (∀ p ∈ ps, ∀ k v, row[k]? = some v → L ≤ v + bR cells par p.1.toNat p.2.toNat k r) → L ≤ bestS cells par row r ps b
  | [], b, h, _ => h
  | q :: ps, b, h, hh => by
    rw [bestS]
    exact bestS_ge cells par row r L ps _ (bestJ_ge cells par q r L row 0 b h fun k v hk => by rw [Nat.zero_add]; exact hh q (by simp) k v hk) fun p hp => hh p (by simp [hp])
def lnGo (rec : List Int → List Pos → List Int → List (List Int) → Option (List (List Int))) (F : Nat) (cells : List Cel) (par : List Int) (spots : List Pos) (row pre : List Int) (most : Int) : List Int → List (List Int) → Option (List (List Int))
  | [], out => some out
  | s :: ss, out => if most ≤ out.length then some out else match advM F cells spots s with
    | none => none
    | some S => if S = [] then lnGo rec F cells par spots row pre most ss out else match rec (pre ++ [s]) S (extR par row s) out with
      | none => none
      | some out2 => lnGo rec F cells par spots row pre most ss out2
def linesM (n : Int) (F : Nat) (cells : List Cel) (par : List Int) (ch most : Int) : Nat → List Int → List Pos → List Int → List (List Int) → Option (List (List Int))
  | 0, pre, spots, row, out => some (if ch < bestS cells par row 0 spots far then out else if bestS cells par row 0 spots far = ch then out ++ [pre] else out)
  | r + 1, pre, spots, row, out => if ch < bestS cells par row (r + 1) spots far then some out else lnGo (linesM n F cells par ch most r) F cells par spots row pre most (upto n) out
theorem lip_last {par row : List Int} (h : Lip par row) : ∀ (d k : Nat), k + d = par.length → row.getD par.length 0 ≤ row.getD k 0 + d
  | 0, k, e => by rw [show k = par.length from by omega]; omega
  | d + 1, k, e => by
    have h1 := lip_last h d (k + 1) (by omega)
    have h2 := h k (by omega)
    omega
theorem spot_eq {cells : List Cel} {p : Pos} (h : PV_ cells p) : p = (((p.1.toNat : Nat) : Int), ((p.2.toNat : Nat) : Int)) := by
  rcases h with rfl | ⟨c, h0, _, h2, _⟩
  · simp
  · exact Prod.ext (by simp only; omega) (by simp only; omega)
/-- the words that lead on -/
def LwR (n : Int) (cells : List Cel) (par : List Int) (S : List Pos) (row : List Int) (ch : Int) (r : Nat) : List (List Int) := (words n r).filter fun w => AccL cells S w && decide (lastR par (finR par row w) = ch)
theorem LwR_succ (n : Int) (cells : List Cel) (par : List Int) (S : List Pos) (row : List Int) (ch : Int) (r : Nat) : LwR n cells par S row ch (r + 1) = (upto n).flatMap fun s => ((words n r).filter fun w => AccL cells S (s :: w) && decide (lastR par (finR par (extR par row s) w) = ch)).map (s :: ·) := by
  unfold LwR
  rw [words]
  induction upto n with
  | nil => rfl
  | cons s l ih =>
    rw [List.flatMap_cons, List.filter_append, List.flatMap_cons, ← ih, List.filter_map]
    rfl
theorem best_low {cells : List Cel} {par row : List Int} {S : List Pos} (hv : ∀ p ∈ S, PV_ cells p) (hl : row.length = par.length + 1) {w : List Int} (ha : AccL cells S w = true) : bestS cells par row w.length S far ≤ lastR par (finR par row w) := by
  obtain ⟨p, hp, hap⟩ := AccL_iff.1 ha
  obtain ⟨k, hk, h1⟩ := finR_ge par w row hl
  have h2 := bR_le cells par p.1.toNat p.2.toNat k w hk (by rw [← spot_eq (hv p hp)]; exact hap)
  have h3 := (bestS_le cells par row w.length S far).2 p hp k (row.getD k 0) (by rw [getD_lt (by omega), List.getElem?_eq_getElem (by omega)])
  omega
theorem best_zero {cells : List Cel} {par row : List Int} {S : List Pos} (hp60 : par.length ≤ 60) (hv : ∀ p ∈ S, PV_ cells p) (hl : row.length = par.length + 1) (hlip : Lip par row) (h0 : ∀ v ∈ row, 0 ≤ v ∧ v ≤ 1000) :
    (AccL cells S [] = true → bestS cells par row 0 S far = row.getD par.length 0) ∧ (AccL cells S [] = false → far ≤ bestS cells par row 0 S far) := by
  have hfar := far_eq
  have hrow : ∀ k v, row[k]? = some v → k ≤ par.length ∧ v = row.getD k 0 ∧ 0 ≤ v ∧ v ≤ 1000 := fun k v hk => by
    obtain ⟨h1, h2⟩ := List.getElem?_eq_some_iff.1 hk
    exact ⟨by omega, by simp [List.getD, hk], h0 v (List.mem_of_getElem? hk)⟩
  refine ⟨fun ha => ?_, fun ha => ?_⟩
  · have h1 := best_low hv hl ha
    rw [finR] at h1
    unfold lastR at h1
    simp only [List.length_nil] at h1
    have hlast := (hrow par.length (row.getD par.length 0) (by rw [getD_lt (by omega), List.getElem?_eq_getElem (by omega)])).2.2
    have h2 : row.getD par.length 0 ≤ bestS cells par row 0 S far := bestS_ge _ _ _ _ _ _ _ (by omega) fun p hp k v hk => by
      obtain ⟨g1, g2, g3, g4⟩ := hrow k v hk
      have := (bR_bd cells par hp60 p.1.toNat p.2.toNat k 0 g1).2.2 rfl
      have := lip_last hlip (par.length - k) k (by omega)
      omega
    omega
  · refine bestS_ge _ _ _ _ _ _ _ (by omega) fun p hp k v hk => ?_
    obtain ⟨g1, g2, g3, g4⟩ := hrow k v hk
    have := bR_far cells par hp60 p.1.toNat p.2.toNat k g1 (by
      rw [← spot_eq (hv p hp)]
      cases h : accP cells p [] with
      | false => rfl
      | true => have := AccL_iff.2 ⟨p, hp, h⟩; rw [ha] at this; cases this)
    omega
theorem linesM_spec {n : Int} {cells : List Cel} {M : Int} (e : CE n cells M) {F : Nat} (hF : 1000 ≤ F) (hF2 : F ≤ 19900) {par : List Int} (hpl : par.length ≤ 60) {ch most : Int} (hch : ch ≤ 1000) : ∀ (r : Nat) (pre : List Int) (S : List Pos) (row : List Int) (out : List (List Int)) (m : Nat) (ρ B : Int),
    SI cells M ρ S → RowG par B row → Lip par row → 0 ≤ B ∧ B + r ≤ 1000 → (out.length : Int) + m = most → 1 ≤ m →
    linesM n F cells par ch most r pre S row out = some (out ++ ((LwR n cells par S row ch r).take m).map (pre ++ ·))
  | 0, pre, S, row, out, m, ρ, B, hS, hg, hlip, hB, ho, hm => by
    have hfar := far_eq
    obtain ⟨h1, h2⟩ := best_zero (cells := cells) (S := S) hpl hS.pv hg.len hlip fun v hv => by have := hg.bd v hv; omega
    rw [linesM]
    unfold LwR
    rw [words]
    have hfil : ∀ b : Bool, (AccL cells S [] && decide (lastR par (finR par row []) = ch)) = b → (([[]] : List (List Int)).filter fun w => AccL cells S w && decide (lastR par (finR par row w) = ch)) = if b = true then [[]] else [] := by
      intro b hb
      rw [List.filter_cons, hb]
      cases b <;> rfl
    have hfl : lastR par (finR par row []) = row.getD par.length 0 := rfl
    rw [hfl] at hfil
    congr 1
    cases ha : AccL cells S [] with
    | false =>
      have h4 := h2 ha
      rw [hfil false (by rw [ha]; rfl)]
      rw [if_pos (show ch < bestS cells par row 0 S far by omega)]
      simp
    | true =>
      have h3 := h1 ha
      by_cases hc : bestS cells par row 0 S far = ch
      · rw [hfil true (by rw [ha, ← h3, hc]; simp)]
        rw [if_neg (show ¬ ch < bestS cells par row 0 S far by omega), if_pos hc]
        obtain ⟨m, rfl⟩ : ∃ k, m = k + 1 := ⟨m - 1, by omega⟩
        simp
      · rw [hfil false (by rw [ha, ← h3]; simp [hc])]
        rw [if_neg hc]
        simp
  | r + 1, pre, S, row, out, m, ρ, B, hS, hg, hlip, hB, ho, hm => by
    rw [linesM]
    split
    · rename_i hlt
      have : LwR n cells par S row ch (r + 1) = [] := by
        unfold LwR
        rw [List.filter_eq_nil_iff]
        intro w hw
        simp only [Bool.and_eq_true, decide_eq_true_eq, not_and]
        intro ha hc
        have h1 := best_low hS.pv hg.len ha
        rw [words_len w hw] at h1
        omega
      rw [this]; simp
    · have key : ∀ (ss : List Int) (out : List (List Int)) (m : Nat), (out.length : Int) + m = most →
          lnGo (linesM n F cells par ch most r) F cells par S row pre most ss out = some (out ++ ((ss.flatMap fun s => ((words n r).filter fun w => AccL cells S (s :: w) && decide (lastR par (finR par (extR par row s) w) = ch)).map (s :: ·)).take m).map (pre ++ ·)) := by
        intro ss
        induction ss with
        | nil => intro out m ho; rw [lnGo]; simp
        | cons s ss ih =>
          intro out m ho
          rw [lnGo]
          by_cases hmost : most ≤ out.length
          · rw [if_pos hmost, show m = 0 from by omega]; simp
          · rw [if_neg hmost]
            obtain ⟨T, g1, g2, g3, g4⟩ := adv_spec e hF hF2 hS s
            rw [g1]
            simp only
            rw [List.flatMap_cons]
            have hcg : ((words n r).filter fun w => AccL cells S (s :: w) && decide (lastR par (finR par (extR par row s) w) = ch)) = LwR n cells par T (extR par row s) ch r := by
              unfold LwR
              refine List.filter_congr fun w _ => ?_
              rw [g4 w, acc_step hS.pv hS.cl]
            rw [hcg]
            by_cases hT : T = []
            · rw [if_pos hT]
              have : LwR n cells par T (extR par row s) ch r = [] := by
                unfold LwR
                rw [List.filter_eq_nil_iff]
                intro w _
                rw [hT]; simp [AccL]
              rw [this, List.map_nil, List.nil_append]
              exact ih out m ho
            · rw [if_neg hT]
              have hrec := linesM_spec e hF hF2 hpl hch r (pre ++ [s]) T (extR par row s) out m (ρ + 1) (B + 1) g2 (extM_spec s (by omega) hg).2 (extR_lip s hg.len) (by omega) ho (by omega)
              rw [hrec]
              simp only
              obtain ⟨A, hA⟩ : ∃ A, A = LwR n cells par T (extR par row s) ch r := ⟨_, rfl⟩
              rw [← hA]
              have hmap : (A.take m).map (pre ++ [s] ++ ·) = ((A.map (s :: ·)).take m).map (pre ++ ·) := by
                rw [← List.map_take, List.map_map]
                exact List.map_congr_left fun w _ => by simp
              rw [hmap]
              rw [ih _ (m - A.length) (by rw [List.length_append, List.length_map, List.length_take, List.length_map]; omega)]
              rw [take_app, List.length_map]
              by_cases hl : A.length < m
              · rw [if_pos hl, List.map_append, List.take_of_length_le (i := m) (by rw [List.length_map]; omega), List.append_assoc]
              · rw [if_neg hl, show m - A.length = 0 from by omega]; simp
      rw [key (upto n) out m ho, ← LwR_succ]
end Go.Abs.Wall
set_option maxRecDepth 100000
set_option linter.unusedVariables false
namespace Go.Abs.Wall
open Go Go.Abs Go.Proofs
/-! ### theory: First of the specification -/
def frIn (n : Int) (F : Nat) (cells : List Cel) (par : List Int) (most : Int) (S0 : List Pos) (ch : Int) : List Nat → List Rst → Option (List Rst)
  | [], out => some out
  | r :: rs, out => if most ≤ out.length then some out else match linesM n F cells par ch (most - out.length) r [] S0 (upto ((par.length : Int) + 1)) [] with
    | none => none
    | some ls => frIn n F cells par most S0 ch rs (out ++ ls.map (restored cells par))
def frOut (n : Int) (F : Nat) (cells : List Cel) (par : List Int) (most : Int) (S0 : List Pos) (T : Nat) : List Nat → List Rst → Option (List Rst)
  | [], out => some out
  | ch :: chs, out => if most ≤ out.length then some out else match frIn n F cells par most S0 ch (List.range T) out with
    | none => none
    | some o => frOut n F cells par most S0 T chs o
/-- the start -/
structure S0OK (cells : List Cel) (M : Int) (S0 : List Pos) : Prop where
  si : SI cells M 0 S0
  acc : ∀ w, AccL cells S0 w = acc cells 0 w
theorem LwR_start {n : Int} {cells : List Cel} {M : Int} {S0 : List Pos} (h : S0OK cells M S0) (par : List Int) (ch : Int) (r : Nat) : LwR n cells par S0 (upto ((par.length : Int) + 1)) ch r = linesR n cells par ch r := by
  unfold LwR linesR
  refine List.filter_congr fun w _ => ?_
  rw [h.acc w, finR_dist]
theorem row0_lip (par : List Int) : Lip par (upto ((par.length : Int) + 1)) := fun k hk => by
  rw [row0_get (by omega), row0_get (by omega)]; omega
theorem row0_G (par : List Int) : RowG par par.length (upto ((par.length : Int) + 1)) := by
  refine ⟨by rw [upto_len]; omega, fun v hv => ?_⟩
  have := mem_upto.1 hv; omega
theorem frIn_spec {n : Int} {cells : List Cel} {M : Int} (e : CE n cells M) {F : Nat} (hF : 1000 ≤ F) (hF2 : F ≤ 19900) {par : List Int} (hpl : par.length ≤ 60) {S0 : List Pos} (h0 : S0OK cells M S0) {most ch : Int} (hch : ch ≤ 1000) : ∀ (rs : List Nat) (out : List Rst) (m : Nat), (∀ r ∈ rs, r ≤ 100) → (out.length : Int) + m = most →
    frIn n F cells par most S0 ch rs out = some (out ++ ((rs.flatMap (linesR n cells par ch)).take m).map (restored cells par))
  | [], out, m, _, _ => by rw [frIn]; simp
  | r :: rs, out, m, hr, ho => by
    rw [frIn]
    by_cases hm : most ≤ out.length
    · rw [if_pos hm, show m = 0 from by omega]; simp
    · rw [if_neg hm]
      have := hr r (by simp)
      have hl := linesM_spec e hF hF2 hpl (ch := ch) (most := most - out.length) hch r [] S0 (upto ((par.length : Int) + 1)) [] m 0 par.length h0.si (row0_G par) (row0_lip par) (by omega) (by simp; omega) (by omega)
      rw [LwR_start h0] at hl
      rw [hl]
      simp only [List.nil_append]
      obtain ⟨A, hA⟩ : ∃ A, A = linesR n cells par ch r := ⟨_, rfl⟩
      rw [List.flatMap_cons, ← hA]
      have hid : (A.take m).map (fun w : List Int => w) = A.take m := List.map_id' _
      rw [hid]
      rw [frIn_spec e hF hF2 hpl h0 hch rs _ (m - A.length) (fun r hr' => hr r (by simp [hr'])) (by rw [List.length_append, List.length_map, List.length_take]; omega), take_app]
      by_cases hlt : A.length < m
      · rw [if_pos hlt, List.map_append, List.take_of_length_le (by omega), List.append_assoc]
      · rw [if_neg hlt, show m - A.length = 0 from by omega]; simp
theorem frOut_spec {n : Int} {cells : List Cel} {M : Int} (e : CE n cells M) {F : Nat} (hF : 1000 ≤ F) (hF2 : F ≤ 19900) {par : List Int} (hpl : par.length ≤ 60) {S0 : List Pos} (h0 : S0OK cells M S0) {most : Int} {T : Nat} (hT : T ≤ 100) : ∀ (chs : List Nat) (out : List Rst) (m : Nat), (∀ c ∈ chs, c ≤ 1000) → (out.length : Int) + m = most →
    frOut n F cells par most S0 T chs out = some (out ++ ((chs.flatMap fun (c : Nat) => linesC n cells par T c).take m).map (restored cells par))
  | [], out, m, _, _ => by rw [frOut]; simp
  | c :: chs, out, m, hc, ho => by
    rw [frOut]
    by_cases hm : most ≤ out.length
    · rw [if_pos hm, show m = 0 from by omega]; simp
    · rw [if_neg hm]
      have := hc c (by simp)
      rw [frIn_spec e hF hF2 hpl h0 (by omega) (List.range T) out m (fun r hr => by have := List.mem_range.1 hr; omega) ho]
      simp only
      rw [List.flatMap_cons, show (List.range T).flatMap (linesR n cells par (c : Int)) = linesC n cells par T c from rfl]
      obtain ⟨A, hA⟩ : ∃ A, A = linesC n cells par T (c : Int) := ⟨_, rfl⟩
      rw [← hA]
      rw [frOut_spec e hF hF2 hpl h0 hT chs _ (m - A.length) (fun r hr' => hc r (by simp [hr'])) (by rw [List.length_append, List.length_map, List.length_take]; omega), take_app]
      by_cases hlt : A.length < m
      · rw [if_pos hlt, List.map_append, List.take_of_length_le (by omega), List.append_assoc]
      · rw [if_neg hlt, show m - A.length = 0 from by omega]; simp
/-- the specification gives what the program gives -/
theorem refFirst_spec {n : Int} {cells : List Cel} {M : Int} (e : CE n cells M) (hr : right n cells = true) {F : Nat} (hF : 1000 ≤ F) (hF2 : F ≤ 19900) {par : List Int} (hpl : par.length ≤ 60) {S0 : List Pos} (h0 : S0OK cells M S0) {most : Int} (hm : 0 ≤ most) {T : Nat} (hT : (T : Int) = M + 1) :
    frOut n F cells par most S0 T (List.range (M.toNat + par.length + 1)) [] = some (((allLines n cells par).take most.toNat).map (restored cells par)) := by
  have hM : 0 ≤ M := by rw [← e.tot]; exact sum_nn e.mx
  have hsm := e.small
  have htt : totM cells = M := e.tot
  rw [frOut_spec e hF hF2 hpl h0 (T := T) (by omega) _ [] most.toNat (fun c hc => by have := List.mem_range.1 hc; omega) (by simp; omega), List.nil_append]
  have h1 := linesU_more (n := n) (cells := cells) (par := par) (K := T) (C := M.toNat + par.length + 1) (fun w hw ha => by
    have h1 := (acc_len hr ha).1
    have h2 := dist_bd w par
    omega) (200 - (M.toNat + par.length + 1))
  rw [show (List.range (M.toNat + par.length + 1)).flatMap (fun (c : Nat) => linesC n cells par T c) = linesU n cells par T (M.toNat + par.length + 1) from rfl, ← h1]
  unfold allLines
  rw [htt, show M.toNat + 1 = T from by omega, show M.toNat + par.length + 1 + (200 - (M.toNat + par.length + 1)) = 200 from by omega]
end Go.Abs.Wall
set_option maxRecDepth 100000
set_option linter.unusedVariables false
namespace Go.Abs.Wall
open Go Go.Abs Go.Proofs
/-! ### the specification's search: the row -/
abbrev MK := Nat × Nat × Nat × Nat
abbrev Mm := List (MK × Int)
def ekM (k : MK) : AV := .agg [.int .i64 k.1, .int .i64 k.2.1, .int .i64 k.2.2.1, .int .i64 k.2.2.2]
def encMm (m : Mm) : List (AV × AV) := encA ekM (AV.int .i64) m
def wk (n : Int) (cells : List Cel) (par : List Int) (b km : Nat) (M : Mm) : Heap := [(b, .vec [.int .i64 n, .sl 3 none (cells.map encCel), .sl 1 none (ints par), .omap km]), (km, .map (encMm M))]
theorem eqM (a b : MK) : eqV Try.prog 195 (ekM a) (ekM b) = some (decide (a = b)) := by
  have key : eqV Try.prog 195 (ekM a) (ekM b) = some (decide ((a.1 : Int) = b.1) && (decide ((a.2.1 : Int) = b.2.1) && (decide ((a.2.2.1 : Int) = b.2.2.1) && (decide ((a.2.2.2 : Int) = b.2.2.2) && true)))) := rfl
  rw [key]
  congr 1
  rw [Bool.eq_iff_iff]
  simp only [Bool.and_eq_true, decide_eq_true_eq, Prod.ext_iff]
  constructor
  · rintro ⟨h1, h2, h3, h4, _⟩; exact ⟨by omega, by omega, by omega, by omega⟩
  · rintro ⟨h1, h2, h3, h4⟩; exact ⟨by omega, by omega, by omega, by omega, trivial⟩
theorem plainM : plainT Try.prog 195 = true := by decide +kernel
def c120 : Cfg := ⟨[0, 1, 2, 6, 7, 8, 21], [], [], [], [(6, [0, 1, 2, 3, 4, 5, 6, 7, 8, 9, 10, 11, 12, 13, 14, 15, 16, 17, 18, 19, 20, 21, 22, 23, 24, 25, 26, 27, 28, 29, 30, 31], [])], []⟩
theorem rowR (n : Int) (cells : List Cel) (par : List Int) (b km : Nat) (M : Mm) (row : List Int) (s B : Int) (hg : RowG par B row) (hB : 0 ≤ B ∧ B ≤ 1000) (hpl : par.length ≤ 60) :
    ACalls Try.prog 120 [.optr b 0, .sl 1 none (ints row), .int .i64 s] (wk n cells par b km M) (fun v h' => v = .sl 1 none (ints (extR par row s)) ∧ h' = wk n cells par b km M) := by
  refine ACalls.frz (R := fun v h => ∃ bo, v = .osl bo 0 (par.length + 1) 1 ∧ h = (bo, .vec (rowsF (par.length + 1) fun q => .int .i64 ((extR par row s).getD q 0))) :: wk n cells par b km M) (fcalls (F := Try.f120) c120 rfl rfl rfl mixed rfl fun X => ?_) ?_
  · conv => whnf
    have e1 := ints_length row
    have hl := hg.len
    skip
    refine ⟨⟨rfl, by omega, by omega⟩, ?_⟩
    intro bO
    conv => whnf
    rw [show ((ints row).length : Int).toNat = par.length + 1 from by omega, repC_F]
    have hget : ∀ k, k ≤ par.length → row[k]? = some (row.getD k 0) ∧ 0 ≤ row.getD k 0 ∧ row.getD k 0 ≤ B := fun k hk => by
      have h1 : row[k]? = some (row.getD k 0) := by rw [getD_lt (by omega), List.getElem?_eq_getElem (by omega)]
      exact ⟨h1, hg.bd _ (List.mem_of_getElem? h1)⟩
    have g0 := hget 0 (by omega)
    repeat ((first | refine ⟨gP_of ⟨by omega, by omega⟩, ?_⟩ | (refine ixn 0 rfl g0.1 ?_) | (refine ixo (i := 0) (by omega) ?_) | (refine stoF ?_ (.here _) ?_; (focus (first | omega | (simp <;> omega))))); conv => whnf)
    have hxb := (extM_spec s (by omega) hg).2.bd
    have hxl := extR_len s hl
    have hxg : ∀ k, k ≤ par.length → 0 ≤ (extR par row s).getD k 0 ∧ (extR par row s).getD k 0 ≤ B + 1 := fun k hk => by
      rw [getD_lt (by omega)]; exact hxb _ (List.getElem_mem _)
    refine sloop rfl mixed [0, 1, 2, 7, 8] [] (fun m r h => ∃ (j : Nat), r = [(0, [], .optr b 0), (1, [], .sl 1 none (ints row)), (2, [], .int .i64 s), (7, [], .osl bO 0 (par.length + 1) 1), (8, [], .int .i64 j)] ∧ h = (bO, .vec (rowsF (par.length + 1) fun q => if q < j then .int .i64 ((extR par row s).getD q 0) else .int .i64 0)) :: wk n cells par b km M ∧ m = par.length + 1 - j ∧ 1 ≤ j ∧ j ≤ par.length + 1) ?_ ?_
    · conv => whnf
      refine ⟨_, 1, rfl, ?_, rfl, by omega, by omega⟩
      refine congrArg (fun x => (bO, Ob.vec x) :: wk n cells par b km M) (rowsF_congr fun q hq => ?_)
      by_cases e : q = 0
      · subst e; simp [extR]
      · rw [if_neg (by omega), if_neg (by omega)]
    · rintro m r h ⟨j, rfl, rfl, rfl, hj1, hj2⟩
      conv => whnf
      refine ⟨fun hf => ?_, fun hf => ?_⟩ <;> simp at hf
      · obtain ⟨k, rfl⟩ : ∃ k, j = k + 1 := ⟨j - 1, by omega⟩
        have a1 := hget (k + 1) (by omega)
        have a2 := hget k (by omega)
        have a3 := hxg k (by omega)
        have a4 := extR_succ s hl (show k < par.length by omega)
        have hp : par[k]? = some (par.getD k 0) := by rw [getD_lt (by omega), List.getElem?_eq_getElem (by omega)]
        have hdf := differ01 s (par.getD k 0)
        conv => whnf
        repeat ((first | refine ⟨gP_of ⟨by omega, by omega⟩, ?_⟩ | refine gcall (differR s (par.getD k 0)) ?_ | (refine ixn (k + 1) (by omega) a1.1 ?_) | (refine ixn k (by omega) a2.1 ?_)
                       | (refine ixn k (by omega) hp ?_) | (refine ixo (i := k + 1) (by omega) ?_) | (refine ixog ?_ ?_; (focus (conv => whnf; skip)); (focus (first | (show 0 ≤ _ ∧ _ < _; omega) | (intro hq; show 0 ≤ _ ∧ _ < _; omega))))
                       | (refine ldoF (.int .i64 ((extR par row s).getD k 0)) (.head _) rfl (by omega) (by rw [if_pos (by omega)]; congr 2; omega) ?_) | (refine stoF ?_ (.here _) ?_; (focus (first | omega | (simp <;> omega))))
                       | refine ⟨_, _, .tail _ (.head _), rfl, ?_⟩ | refine And.intro (by show drawOK (opsAt Try.f120 _) _ = true; decide +kernel) ?_); conv => whnf)
        refine ⟨_, by omega, k + 2, rfl, congrArg (fun x => (bO, Ob.vec x) :: wk n cells par b km M) (rowsF_congr fun q hq => ?_), rfl, by omega, by omega⟩
        by_cases e : q = k + 1
        · subst e
          rw [if_pos (by omega), if_pos (by omega), a4]
          congr 1; omega
        · by_cases e2 : q < k + 1
          · rw [if_neg (by omega), if_pos e2, if_pos (by omega)]
          · rw [if_neg (by omega), if_neg e2, if_neg (by omega)]
      · conv => whnf
        refine ⟨bO, rfl, congrArg (fun x => (bO, Ob.vec x) :: wk n cells par b km M) (rowsF_congr fun q hq => ?_)⟩
        rw [if_pos (by omega)]
  · rintro v h1 ⟨bo, rfl, rfl⟩
    refine ⟨bo, _, _, _, _, .here _, FzH.refl _, fzF (xs := ints (extR par row s)) ?_, rfl, rfl⟩
    have hl := extR_len s hg.len
    refine List.ext_getElem? fun i => ?_
    by_cases hi : i < par.length + 1
    · simp [ints, List.getElem?_range hi, List.getD, hl, hi]
    · rw [List.getElem?_eq_none (by rw [ints_length]; omega), List.getElem?_eq_none (by simp; omega)]
end Go.Abs.Wall
set_option maxRecDepth 100000
set_option linter.unusedVariables false
namespace Go.Abs.Wall
open Go Go.Abs Go.Proofs
/-! ### the specification's search: the bound -/
def MemoOK (cells : List Cel) (par : List Int) (M : Mm) : Prop := ∀ (k : MK) v, lookA k M = some v → v = bR cells par k.1 k.2.1 k.2.2.1 k.2.2.2
theorem look_set {k x : MK} {v : Int} : ∀ {M : Mm}, lookA x (setA k v M) = if x = k then some v else lookA x M
  | [] => by
    simp only [setA, lookA]
  | (y, u) :: M => by
    have ih := look_set (k := k) (x := x) (v := v) (M := M)
    rw [setA]
    by_cases h1 : k = y
    · rw [if_pos h1, lookA, lookA]
      by_cases h2 : x = k
      · rw [if_pos h2, if_pos h2]
      · rw [if_neg h2, if_neg h2, if_neg (by rw [← h1]; exact h2)]
    · rw [if_neg h1, lookA, lookA, ih]
      by_cases h2 : x = y
      · rw [if_pos h2, if_pos h2, if_neg (fun e => h1 (by rw [← e, h2]))]
      · rw [if_neg h2, if_neg h2]
theorem MemoOK.set {cells : List Cel} {par : List Int} {M : Mm} (h : MemoOK cells par M) (k : MK) : MemoOK cells par (setA k (bR cells par k.1 k.2.1 k.2.2.1 k.2.2.2) M) := by
  intro x v hx
  rw [look_set] at hx
  split at hx
  · rename_i e; subst e; cases hx; rfl
  · exact h x v hx
def c119 : Cfg := ⟨[0, 1, 2, 3, 5, 8, 9, 10, 11, 12, 13, 14, 15, 32, 41, 43, 70, 87, 105, 127, 136], [], [9, 13, 14], [], [(2, [0, 1, 2, 3, 4, 5, 6, 7, 8, 9, 10], []), (6, [0, 1, 2, 3, 4, 5, 6, 7], []), (9, [0, 1, 2, 3, 4, 5, 6], []), (11, [0, 1, 2, 3, 4, 5, 6, 7, 8, 9], [13]), (21, [0, 1, 2, 3, 4, 5, 6, 7, 8], []), (24, [0, 1, 2, 3, 4, 5, 6], [])], []⟩
set_option maxHeartbeats 4000000 in
theorem boundR (n : Int) (cells : List Cel) (par : List Int) (b km : Nat) (hc : CelsOK cells) (hpl : par.length ≤ 60) : ∀ (f i k j r : Nat) (M : Mm) (K : AV → Heap → Prop), (cells.length - i) + (par.length - j) + r < f → i ≤ cells.length → k ≤ 100 → j ≤ par.length → r ≤ 100 → MemoOK cells par M →
    (∀ M', MemoOK cells par M' → K (.int .i64 (bR cells par i k j r)) (wk n cells par b km M')) → ACalls Try.prog 119 [.optr b 0, ekP ((i : Int), (k : Int)), .int .i64 j, .int .i64 r] (wk n cells par b km M) K
  | 0, i, k, j, r, M, K, h, _, _, _, _, _, _ => by omega
  | f + 1, i, k, j, r, M, K, hf, hi, hk, hj, hr, hM, hK => by
    have ih := boundR n cells par b km hc hpl f
    suffices hh : ACalls Try.prog 119 [.optr b 0, ekP ((i : Int), (k : Int)), .int .i64 j, .int .i64 r] (wk n cells par b km M)
        (fun v h' => ∃ M', MemoOK cells par M' ∧ v = .int .i64 (bR cells par i k j r) ∧ h' = wk n cells par b km M') by
      exact ACalls.mono (by rintro v h' ⟨M', h1, rfl, rfl⟩; exact hK M' h1) hh
    refine fcalls (F := Try.f119) c119 rfl rfl rfl mixed rfl fun X => ?_
    conv => whnf
    repeat ((first | (refine lkI (ek := ekM) (k := (i, k, j, r)) (es := M) (.tail _ (.head _)) eqM plainM ?_) | refine ⟨_, _, Rem.here _, ⟨Nat.le_of_ble_eq_true rfl, rfl⟩, ?_⟩
                   | refine ⟨_, _, .head _, rfl, ?_⟩ | refine And.intro (by show drawOK (opsAt Try.f119 _) _ = true; decide +kernel) ?_ | intro (nb : Nat)); conv => whnf)
    refine ⟨fun hh => ?_, fun hh => ?_⟩
    · conv => whnf
      obtain ⟨v, hv⟩ := Option.isSome_iff_exists.1 hh
      rw [hv]
      exact ⟨M, hM, by rw [← hM _ v hv]; rfl, rfl⟩
    have hcl : (cells.map encCel).length = cells.length := by simp
    have hpL := ints_length par
    have hbR := bR_bd cells par hpl i k j r hj
    have hfar := far_eq
    conv => whnf
    repeat ((first | refine ⟨_, _, .head _, rfl, ?_⟩ | refine And.intro (by show drawOK (opsAt Try.f119 _) _ = true; decide +kernel) ?_); conv => whnf)
    refine ⟨fun hi1 => ?_, fun hi1 => ?_⟩ <;> simp only [hcl, decide_eq_true_eq, decide_eq_false_iff_not] at hi1
    · have hb := bR_end (k := k) (j := j) (r := r) (par := par) (show ¬ i < cells.length by omega)
      conv => whnf
      refine ⟨fun hr0 => ?_, fun hr0 => ?_⟩ <;> simp at hr0
      · rw [if_pos hr0] at hb
        conv => whnf
        repeat ((first | refine ⟨gP_of ⟨by omega, by omega⟩, ?_⟩ | (refine upA (ek := ekM) (ev := AV.int .i64) (k := (i, k, j, r)) (v := ((ints par).length : Int) - j) (es := M) eqM plainM (.there (.here _)) ?_)
                       | refine ⟨_, _, .head _, rfl, ?_⟩ | refine And.intro (by show drawOK (opsAt Try.f119 _) _ = true; decide +kernel) ?_); conv => whnf)
        exact ⟨_, by have := hM.set (i, k, j, r); simp only [hb] at this; rw [hpL]; exact this, by rw [hb, hpL], rfl⟩
      · rw [if_neg (by omega)] at hb
        conv => whnf
        repeat ((first | (refine upA (ek := ekM) (ev := AV.int .i64) (k := (i, k, j, r)) (v := 1048576) (es := M) eqM plainM (.there (.here _)) ?_) | refine ⟨_, _, .head _, rfl, ?_⟩
                       | refine And.intro (by show drawOK (opsAt Try.f119 _) _ = true; decide +kernel) ?_); conv => whnf)
        exact ⟨_, by have := hM.set (i, k, j, r); simp only [hb] at this; exact this, by rw [hb]; rfl, rfl⟩
    · have hil : i < cells.length := by omega
      have hx : cells[i]? = some (cells.getD i c0_) := by rw [getD_lt hil, List.getElem?_eq_getElem hil]
      obtain ⟨c, hce⟩ : ∃ c, c = cells.getD i c0_ := ⟨_, rfl⟩
      rw [← hce] at hx
      have hv := hc.each c (List.mem_of_getElem? hx)
      have hcl2 := hc.len
      have hbRe := bR.eq_1 cells par i k j r
      rw [dif_pos hil, ← hce] at hbRe
      simp only at hbRe
      conv => whnf
      repeat ((first | refine ix (by assumption) ?_ | refine ⟨_, _, Rem.here _, ?_⟩ | refine ⟨_, _, .head _, rfl, ?_⟩ | refine ⟨_, _, .here _, leOK, ?_⟩ | refine And.intro (by show drawOK (opsAt Try.f119 _) _ = true; decide +kernel) ?_
                     | intro (nb : Nat)); conv => whnf)
      refine ⟨fun hmn => ?_, fun hmn => ?_⟩ <;> simp only [decide_eq_true_eq, decide_eq_false_iff_not] at hmn
      · conv => whnf
        repeat ((first | refine ⟨gP_of ⟨by omega, by omega⟩, ?_⟩ | (refine ih (i + 1) 0 j r M _ (by omega) (by omega) (by omega) hj hr hM (fun M1 hM1 => ?_)) | refine ⟨_, _, .head _, rfl, ?_⟩); conv => whnf)
        obtain ⟨b0, hb0⟩ : ∃ b0, b0 = min far (bR cells par (i + 1) 0 j r) := ⟨_, rfl⟩
        rw [show min 1048576 (bR cells par (i + 1) 0 j r) = b0 from hb0.symm]
        have hB0 : b0 = (if c.mn ≤ k then min far (bR cells par (i + 1) 0 j r) else far) := by rw [if_pos hmn]; exact hb0
        have hb0b : 0 ≤ b0 ∧ b0 ≤ 1048576 := by have := (bR_bd cells par hpl (i + 1) 0 j r hj).1; rw [hb0]; omega
        refine ⟨fun hj1 => ?_, fun hj1 => ?_⟩ <;> simp only [hpL, decide_eq_true_eq, decide_eq_false_iff_not] at hj1
        · have hq1 := bR_bd cells par hpl i k (j + 1) r (by omega)
          conv => whnf
          repeat ((first | refine ⟨gP_of ⟨by omega, by omega⟩, ?_⟩ | (refine ih i k (j + 1) r M1 _ (by omega) hi hk (by omega) hr hM1 (fun M2 hM2 => ?_))); conv => whnf)
          obtain ⟨b1, hb1⟩ : ∃ b1, b1 = min b0 (1 + bR cells par i k (j + 1) r) := ⟨_, rfl⟩
          have hB1 : b1 = if hj : j < par.length then min b0 (1 + bR cells par i k (j + 1) r) else b0 := by rw [dif_pos (by omega)]; exact hb1
          rw [← hb1]
          rw [hB0] at hB1
          refine ⟨fun hk1 => ?_, fun hk1 => ?_⟩
          · simp only [Bool.and_eq_true, decide_eq_true_eq] at hk1
            have hq2 := bR_bd cells par hpl i (k + 1) j (r - 1) hj
            conv => whnf
            repeat ((first | refine ⟨gP_of ⟨by omega, by omega⟩, ?_⟩ | refine ⟨_, _, Rem.here _, ⟨Nat.le_of_ble_eq_true rfl, rfl⟩, ?_⟩ | intro (nb : Nat)); conv => whnf)
            rw [show ((r : Int) - 1) = ((r - 1 : Nat) : Int) from by omega]
            refine ih i (k + 1) j (r - 1) M2 _ (by omega) hi (by omega) hj (by omega) hM2 (fun M3 hM3 => ?_)
            have hkr : 0 < r ∧ (k : Int) < c.mx := ⟨by omega, hk1.2⟩
            conv => whnf
            repeat ((first | refine ⟨gP_of ⟨by omega, by omega⟩, ?_⟩ | refine ⟨_, _, .head _, rfl, ?_⟩); conv => whnf)
            refine ⟨fun hj2 => ?_, fun hj2 => ?_⟩ <;> simp only [hpL, decide_eq_true_eq, decide_eq_false_iff_not] at hj2
            · have hq3 := bR_bd cells par hpl i (k + 1) (j + 1) (r - 1) (by omega)
              have hpj : par[j]? = some (par.getD j 0) := by rw [getD_lt (by omega), List.getElem?_eq_getElem (by omega)]
              have hjl : j < par.length := by omega
              conv => whnf
              repeat ((first | refine ix (by assumption) ?_ | refine gcall (allowsR c (par.getD j 0) (by unfold LMAX; omega)) ?_ | refine ⟨_, _, .head _, rfl, ?_⟩ | refine And.intro (by show drawOK (opsAt Try.f119 _) _ = true; decide +kernel) ?_); conv => whnf)
              refine ⟨fun ha => ?_, fun ha => ?_⟩
              · conv => whnf
                repeat (refine ⟨gP_of ⟨by omega, by omega⟩, ?_⟩; conv => whnf)
                rw [show ((r : Int) - 1) = ((r - 1 : Nat) : Int) from by omega]
                refine ih i (k + 1) (j + 1) (r - 1) M3 _ (by omega) hi (by omega) (by omega) (by omega) hM3 (fun M9 hM9 => ?_)
                have e : min (min b1 (1 + bR cells par i (k + 1) j (r - 1))) (0 + bR cells par i (k + 1) (j + 1) (r - 1)) = bR cells par i k j r := by
                  rw [hbRe, dif_pos hkr, dif_pos hjl, ← hB1, if_pos ha]
                conv => whnf
                repeat ((first | refine ⟨gP_of ⟨by omega, by omega⟩, ?_⟩ | refine ⟨_, _, .head _, rfl, ?_⟩ | refine And.intro (by show drawOK (opsAt Try.f119 _) _ = true; decide +kernel) ?_); conv => whnf)
                rw [e]
                conv => whnf
                repeat ((refine upA (ek := ekM) (ev := AV.int .i64) (k := (i, k, j, r)) (v := bR cells par i k j r) (es := M9) eqM plainM (.there (.here _)) ?_); conv => whnf)
                exact ⟨_, hM9.set (i, k, j, r), rfl, rfl⟩
              · conv => whnf
                repeat (refine ⟨gP_of ⟨by omega, by omega⟩, ?_⟩; conv => whnf)
                rw [show ((r : Int) - 1) = ((r - 1 : Nat) : Int) from by omega]
                refine ih i (k + 1) (j + 1) (r - 1) M3 _ (by omega) hi (by omega) (by omega) (by omega) hM3 (fun M9 hM9 => ?_)
                have e : min (min b1 (1 + bR cells par i (k + 1) j (r - 1))) (1 + bR cells par i (k + 1) (j + 1) (r - 1)) = bR cells par i k j r := by
                  rw [hbRe, dif_pos hkr, dif_pos hjl, ← hB1, if_neg (by rw [ha]; decide)]
                conv => whnf
                repeat ((first | refine ⟨gP_of ⟨by omega, by omega⟩, ?_⟩ | refine ⟨_, _, .head _, rfl, ?_⟩ | refine And.intro (by show drawOK (opsAt Try.f119 _) _ = true; decide +kernel) ?_); conv => whnf)
                rw [e]
                conv => whnf
                repeat ((refine upA (ek := ekM) (ev := AV.int .i64) (k := (i, k, j, r)) (v := bR cells par i k j r) (es := M9) eqM plainM (.there (.here _)) ?_); conv => whnf)
                exact ⟨_, hM9.set (i, k, j, r), rfl, rfl⟩
            · have hjl : ¬ j < par.length := by omega
              have e : min b1 (1 + bR cells par i (k + 1) j (r - 1)) = bR cells par i k j r := by
                rw [hbRe, dif_pos hkr, dif_neg hjl, ← hB1]
              rw [e]
              obtain ⟨M9, hM9e⟩ : ∃ M9, M9 = M3 := ⟨_, rfl⟩
              have hM9 : MemoOK cells par M9 := by rw [hM9e]; exact hM3
              rw [← hM9e]
              conv => whnf
              repeat ((first | (refine upA (ek := ekM) (ev := AV.int .i64) (k := (i, k, j, r)) (v := bR cells par i k j r) (es := M9) eqM plainM (.there (.here _)) ?_) | refine ⟨_, _, .head _, rfl, ?_⟩
                             | refine And.intro (by show drawOK (opsAt Try.f119 _) _ = true; decide +kernel) ?_); conv => whnf)
              exact ⟨_, hM9.set (i, k, j, r), rfl, rfl⟩
          · have e : b1 = bR cells par i k j r := by
              rw [hbRe, dif_neg (fun h => by simp [h.1, h.2] at hk1)]; exact hB1
            rw [e]
            obtain ⟨M9, hM9e⟩ : ∃ M9, M9 = M2 := ⟨_, rfl⟩
            have hM9 : MemoOK cells par M9 := by rw [hM9e]; exact hM2
            rw [← hM9e]
            conv => whnf
            repeat ((first | (refine upA (ek := ekM) (ev := AV.int .i64) (k := (i, k, j, r)) (v := bR cells par i k j r) (es := M9) eqM plainM (.there (.here _)) ?_) | refine ⟨_, _, .head _, rfl, ?_⟩
                           | refine And.intro (by show drawOK (opsAt Try.f119 _) _ = true; decide +kernel) ?_); conv => whnf)
            exact ⟨_, hM9.set (i, k, j, r), rfl, rfl⟩
        · conv => whnf
          skip
          obtain ⟨b1, hb1⟩ : ∃ b1, b1 = b0 := ⟨_, rfl⟩
          have hB1 : b1 = if hj : j < par.length then min b0 (1 + bR cells par i k (j + 1) r) else b0 := by rw [dif_neg (by omega)]; exact hb1
          obtain ⟨M2, hM2e⟩ : ∃ M2, M2 = M1 := ⟨_, rfl⟩
          have hM2 : MemoOK cells par M2 := by rw [hM2e]; exact hM1
          rw [← hb1, ← hM2e]
          rw [hB0] at hB1
          refine ⟨fun hk1 => ?_, fun hk1 => ?_⟩
          · simp only [Bool.and_eq_true, decide_eq_true_eq] at hk1
            have hq2 := bR_bd cells par hpl i (k + 1) j (r - 1) hj
            conv => whnf
            repeat ((first | refine ⟨gP_of ⟨by omega, by omega⟩, ?_⟩ | refine ⟨_, _, Rem.here _, ⟨Nat.le_of_ble_eq_true rfl, rfl⟩, ?_⟩ | intro (nb : Nat)); conv => whnf)
            rw [show ((r : Int) - 1) = ((r - 1 : Nat) : Int) from by omega]
            refine ih i (k + 1) j (r - 1) M2 _ (by omega) hi (by omega) hj (by omega) hM2 (fun M3 hM3 => ?_)
            have hkr : 0 < r ∧ (k : Int) < c.mx := ⟨by omega, hk1.2⟩
            conv => whnf
            repeat ((first | refine ⟨gP_of ⟨by omega, by omega⟩, ?_⟩ | refine ⟨_, _, .head _, rfl, ?_⟩); conv => whnf)
            refine ⟨fun hj2 => ?_, fun hj2 => ?_⟩ <;> simp only [hpL, decide_eq_true_eq, decide_eq_false_iff_not] at hj2
            · have hq3 := bR_bd cells par hpl i (k + 1) (j + 1) (r - 1) (by omega)
              have hpj : par[j]? = some (par.getD j 0) := by rw [getD_lt (by omega), List.getElem?_eq_getElem (by omega)]
              have hjl : j < par.length := by omega
              conv => whnf
              repeat ((first | refine ix (by assumption) ?_ | refine gcall (allowsR c (par.getD j 0) (by unfold LMAX; omega)) ?_ | refine ⟨_, _, .head _, rfl, ?_⟩ | refine And.intro (by show drawOK (opsAt Try.f119 _) _ = true; decide +kernel) ?_); conv => whnf)
              refine ⟨fun ha => ?_, fun ha => ?_⟩
              · conv => whnf
                repeat (refine ⟨gP_of ⟨by omega, by omega⟩, ?_⟩; conv => whnf)
                rw [show ((r : Int) - 1) = ((r - 1 : Nat) : Int) from by omega]
                refine ih i (k + 1) (j + 1) (r - 1) M3 _ (by omega) hi (by omega) (by omega) (by omega) hM3 (fun M9 hM9 => ?_)
                have e : min (min b1 (1 + bR cells par i (k + 1) j (r - 1))) (0 + bR cells par i (k + 1) (j + 1) (r - 1)) = bR cells par i k j r := by
                  rw [hbRe, dif_pos hkr, dif_pos hjl, ← hB1, if_pos ha]
                conv => whnf
                repeat ((first | refine ⟨gP_of ⟨by omega, by omega⟩, ?_⟩ | refine ⟨_, _, .head _, rfl, ?_⟩ | refine And.intro (by show drawOK (opsAt Try.f119 _) _ = true; decide +kernel) ?_); conv => whnf)
                rw [e]
                conv => whnf
                repeat ((refine upA (ek := ekM) (ev := AV.int .i64) (k := (i, k, j, r)) (v := bR cells par i k j r) (es := M9) eqM plainM (.there (.here _)) ?_); conv => whnf)
                exact ⟨_, hM9.set (i, k, j, r), rfl, rfl⟩
              · conv => whnf
                repeat (refine ⟨gP_of ⟨by omega, by omega⟩, ?_⟩; conv => whnf)
                rw [show ((r : Int) - 1) = ((r - 1 : Nat) : Int) from by omega]
                refine ih i (k + 1) (j + 1) (r - 1) M3 _ (by omega) hi (by omega) (by omega) (by omega) hM3 (fun M9 hM9 => ?_)
                have e : min (min b1 (1 + bR cells par i (k + 1) j (r - 1))) (1 + bR cells par i (k + 1) (j + 1) (r - 1)) = bR cells par i k j r := by
                  rw [hbRe, dif_pos hkr, dif_pos hjl, ← hB1, if_neg (by rw [ha]; decide)]
                conv => whnf
                repeat ((first | refine ⟨gP_of ⟨by omega, by omega⟩, ?_⟩ | refine ⟨_, _, .head _, rfl, ?_⟩ | refine And.intro (by show drawOK (opsAt Try.f119 _) _ = true; decide +kernel) ?_); conv => whnf)
                rw [e]
                conv => whnf
                repeat ((refine upA (ek := ekM) (ev := AV.int .i64) (k := (i, k, j, r)) (v := bR cells par i k j r) (es := M9) eqM plainM (.there (.here _)) ?_); conv => whnf)
                exact ⟨_, hM9.set (i, k, j, r), rfl, rfl⟩
            · have hjl : ¬ j < par.length := by omega
              have e : min b1 (1 + bR cells par i (k + 1) j (r - 1)) = bR cells par i k j r := by
                rw [hbRe, dif_pos hkr, dif_neg hjl, ← hB1]
              rw [e]
              obtain ⟨M9, hM9e⟩ : ∃ M9, M9 = M3 := ⟨_, rfl⟩
              have hM9 : MemoOK cells par M9 := by rw [hM9e]; exact hM3
              rw [← hM9e]
              conv => whnf
              repeat ((first | (refine upA (ek := ekM) (ev := AV.int .i64) (k := (i, k, j, r)) (v := bR cells par i k j r) (es := M9) eqM plainM (.there (.here _)) ?_) | refine ⟨_, _, .head _, rfl, ?_⟩
                             | refine And.intro (by show drawOK (opsAt Try.f119 _) _ = true; decide +kernel) ?_); conv => whnf)
              exact ⟨_, hM9.set (i, k, j, r), rfl, rfl⟩
          · have e : b1 = bR cells par i k j r := by
              rw [hbRe, dif_neg (fun h => by simp [h.1, h.2] at hk1)]; exact hB1
            rw [e]
            obtain ⟨M9, hM9e⟩ : ∃ M9, M9 = M2 := ⟨_, rfl⟩
            have hM9 : MemoOK cells par M9 := by rw [hM9e]; exact hM2
            rw [← hM9e]
            conv => whnf
            repeat ((first | (refine upA (ek := ekM) (ev := AV.int .i64) (k := (i, k, j, r)) (v := bR cells par i k j r) (es := M9) eqM plainM (.there (.here _)) ?_) | refine ⟨_, _, .head _, rfl, ?_⟩
                           | refine And.intro (by show drawOK (opsAt Try.f119 _) _ = true; decide +kernel) ?_); conv => whnf)
            exact ⟨_, hM9.set (i, k, j, r), rfl, rfl⟩
      · conv => whnf
        repeat (refine ⟨_, _, .head _, rfl, ?_⟩; conv => whnf)
        obtain ⟨b0, hb0⟩ : ∃ b0, b0 = far := ⟨_, rfl⟩
        have hB0 : b0 = (if c.mn ≤ k then min far (bR cells par (i + 1) 0 j r) else far) := by rw [if_neg hmn]; exact hb0
        obtain ⟨M1, hM1e⟩ : ∃ M1, M1 = M := ⟨_, rfl⟩
        have hM1 : MemoOK cells par M1 := by rw [hM1e]; exact hM
        rw [show (1048576 : Int) = b0 from hb0.symm, ← hM1e]
        have hb0b : 0 ≤ b0 ∧ b0 ≤ 1048576 := by have := (bR_bd cells par hpl (i + 1) 0 j r hj).1; rw [hb0]; omega
        refine ⟨fun hj1 => ?_, fun hj1 => ?_⟩ <;> simp only [hpL, decide_eq_true_eq, decide_eq_false_iff_not] at hj1
        · have hq1 := bR_bd cells par hpl i k (j + 1) r (by omega)
          conv => whnf
          repeat ((first | refine ⟨gP_of ⟨by omega, by omega⟩, ?_⟩ | (refine ih i k (j + 1) r M1 _ (by omega) hi hk (by omega) hr hM1 (fun M2 hM2 => ?_))); conv => whnf)
          obtain ⟨b1, hb1⟩ : ∃ b1, b1 = min b0 (1 + bR cells par i k (j + 1) r) := ⟨_, rfl⟩
          have hB1 : b1 = if hj : j < par.length then min b0 (1 + bR cells par i k (j + 1) r) else b0 := by rw [dif_pos (by omega)]; exact hb1
          rw [← hb1]
          rw [hB0] at hB1
          refine ⟨fun hk1 => ?_, fun hk1 => ?_⟩
          · simp only [Bool.and_eq_true, decide_eq_true_eq] at hk1
            have hq2 := bR_bd cells par hpl i (k + 1) j (r - 1) hj
            conv => whnf
            repeat ((first | refine ⟨gP_of ⟨by omega, by omega⟩, ?_⟩ | refine ⟨_, _, Rem.here _, ⟨Nat.le_of_ble_eq_true rfl, rfl⟩, ?_⟩ | intro (nb : Nat)); conv => whnf)
            rw [show ((r : Int) - 1) = ((r - 1 : Nat) : Int) from by omega]
            refine ih i (k + 1) j (r - 1) M2 _ (by omega) hi (by omega) hj (by omega) hM2 (fun M3 hM3 => ?_)
            have hkr : 0 < r ∧ (k : Int) < c.mx := ⟨by omega, hk1.2⟩
            conv => whnf
            repeat ((first | refine ⟨gP_of ⟨by omega, by omega⟩, ?_⟩ | refine ⟨_, _, .head _, rfl, ?_⟩); conv => whnf)
            refine ⟨fun hj2 => ?_, fun hj2 => ?_⟩ <;> simp only [hpL, decide_eq_true_eq, decide_eq_false_iff_not] at hj2
            · have hq3 := bR_bd cells par hpl i (k + 1) (j + 1) (r - 1) (by omega)
              have hpj : par[j]? = some (par.getD j 0) := by rw [getD_lt (by omega), List.getElem?_eq_getElem (by omega)]
              have hjl : j < par.length := by omega
              conv => whnf
              repeat ((first | refine ix (by assumption) ?_ | refine gcall (allowsR c (par.getD j 0) (by unfold LMAX; omega)) ?_ | refine ⟨_, _, .head _, rfl, ?_⟩ | refine And.intro (by show drawOK (opsAt Try.f119 _) _ = true; decide +kernel) ?_); conv => whnf)
              refine ⟨fun ha => ?_, fun ha => ?_⟩
              · conv => whnf
                repeat (refine ⟨gP_of ⟨by omega, by omega⟩, ?_⟩; conv => whnf)
                rw [show ((r : Int) - 1) = ((r - 1 : Nat) : Int) from by omega]
                refine ih i (k + 1) (j + 1) (r - 1) M3 _ (by omega) hi (by omega) (by omega) (by omega) hM3 (fun M9 hM9 => ?_)
                have e : min (min b1 (1 + bR cells par i (k + 1) j (r - 1))) (0 + bR cells par i (k + 1) (j + 1) (r - 1)) = bR cells par i k j r := by
                  rw [hbRe, dif_pos hkr, dif_pos hjl, ← hB1, if_pos ha]
                conv => whnf
                repeat ((first | refine ⟨gP_of ⟨by omega, by omega⟩, ?_⟩ | refine ⟨_, _, .head _, rfl, ?_⟩ | refine And.intro (by show drawOK (opsAt Try.f119 _) _ = true; decide +kernel) ?_); conv => whnf)
                rw [e]
                conv => whnf
                repeat ((refine upA (ek := ekM) (ev := AV.int .i64) (k := (i, k, j, r)) (v := bR cells par i k j r) (es := M9) eqM plainM (.there (.here _)) ?_); conv => whnf)
                exact ⟨_, hM9.set (i, k, j, r), rfl, rfl⟩
              · conv => whnf
                repeat (refine ⟨gP_of ⟨by omega, by omega⟩, ?_⟩; conv => whnf)
                rw [show ((r : Int) - 1) = ((r - 1 : Nat) : Int) from by omega]
                refine ih i (k + 1) (j + 1) (r - 1) M3 _ (by omega) hi (by omega) (by omega) (by omega) hM3 (fun M9 hM9 => ?_)
                have e : min (min b1 (1 + bR cells par i (k + 1) j (r - 1))) (1 + bR cells par i (k + 1) (j + 1) (r - 1)) = bR cells par i k j r := by
                  rw [hbRe, dif_pos hkr, dif_pos hjl, ← hB1, if_neg (by rw [ha]; decide)]
                conv => whnf
                repeat ((first | refine ⟨gP_of ⟨by omega, by omega⟩, ?_⟩ | refine ⟨_, _, .head _, rfl, ?_⟩ | refine And.intro (by show drawOK (opsAt Try.f119 _) _ = true; decide +kernel) ?_); conv => whnf)
                rw [e]
                conv => whnf
                repeat ((refine upA (ek := ekM) (ev := AV.int .i64) (k := (i, k, j, r)) (v := bR cells par i k j r) (es := M9) eqM plainM (.there (.here _)) ?_); conv => whnf)
                exact ⟨_, hM9.set (i, k, j, r), rfl, rfl⟩
            · have hjl : ¬ j < par.length := by omega
              have e : min b1 (1 + bR cells par i (k + 1) j (r - 1)) = bR cells par i k j r := by
                rw [hbRe, dif_pos hkr, dif_neg hjl, ← hB1]
              rw [e]
              obtain ⟨M9, hM9e⟩ : ∃ M9, M9 = M3 := ⟨_, rfl⟩
              have hM9 : MemoOK cells par M9 := by rw [hM9e]; exact hM3
              rw [← hM9e]
              conv => whnf
              repeat ((first | (refine upA (ek := ekM) (ev := AV.int .i64) (k := (i, k, j, r)) (v := bR cells par i k j r) (es := M9) eqM plainM (.there (.here _)) ?_) | refine ⟨_, _, .head _, rfl, ?_⟩
                             | refine And.intro (by show drawOK (opsAt Try.f119 _) _ = true; decide +kernel) ?_); conv => whnf)
              exact ⟨_, hM9.set (i, k, j, r), rfl, rfl⟩
          · have e : b1 = bR cells par i k j r := by
              rw [hbRe, dif_neg (fun h => by simp [h.1, h.2] at hk1)]; exact hB1
            rw [e]
            obtain ⟨M9, hM9e⟩ : ∃ M9, M9 = M2 := ⟨_, rfl⟩
            have hM9 : MemoOK cells par M9 := by rw [hM9e]; exact hM2
            rw [← hM9e]
            conv => whnf
            repeat ((first | (refine upA (ek := ekM) (ev := AV.int .i64) (k := (i, k, j, r)) (v := bR cells par i k j r) (es := M9) eqM plainM (.there (.here _)) ?_) | refine ⟨_, _, .head _, rfl, ?_⟩
                           | refine And.intro (by show drawOK (opsAt Try.f119 _) _ = true; decide +kernel) ?_); conv => whnf)
            exact ⟨_, hM9.set (i, k, j, r), rfl, rfl⟩
        · conv => whnf
          skip
          obtain ⟨b1, hb1⟩ : ∃ b1, b1 = b0 := ⟨_, rfl⟩
          have hB1 : b1 = if hj : j < par.length then min b0 (1 + bR cells par i k (j + 1) r) else b0 := by rw [dif_neg (by omega)]; exact hb1
          obtain ⟨M2, hM2e⟩ : ∃ M2, M2 = M1 := ⟨_, rfl⟩
          have hM2 : MemoOK cells par M2 := by rw [hM2e]; exact hM1
          rw [← hb1, ← hM2e]
          rw [hB0] at hB1
          refine ⟨fun hk1 => ?_, fun hk1 => ?_⟩
          · simp only [Bool.and_eq_true, decide_eq_true_eq] at hk1
            have hq2 := bR_bd cells par hpl i (k + 1) j (r - 1) hj
            conv => whnf
            repeat ((first | refine ⟨gP_of ⟨by omega, by omega⟩, ?_⟩ | refine ⟨_, _, Rem.here _, ⟨Nat.le_of_ble_eq_true rfl, rfl⟩, ?_⟩ | intro (nb : Nat)); conv => whnf)
            rw [show ((r : Int) - 1) = ((r - 1 : Nat) : Int) from by omega]
            refine ih i (k + 1) j (r - 1) M2 _ (by omega) hi (by omega) hj (by omega) hM2 (fun M3 hM3 => ?_)
            have hkr : 0 < r ∧ (k : Int) < c.mx := ⟨by omega, hk1.2⟩
            conv => whnf
            repeat ((first | refine ⟨gP_of ⟨by omega, by omega⟩, ?_⟩ | refine ⟨_, _, .head _, rfl, ?_⟩); conv => whnf)
            refine ⟨fun hj2 => ?_, fun hj2 => ?_⟩ <;> simp only [hpL, decide_eq_true_eq, decide_eq_false_iff_not] at hj2
            · have hq3 := bR_bd cells par hpl i (k + 1) (j + 1) (r - 1) (by omega)
              have hpj : par[j]? = some (par.getD j 0) := by rw [getD_lt (by omega), List.getElem?_eq_getElem (by omega)]
              have hjl : j < par.length := by omega
              conv => whnf
              repeat ((first | refine ix (by assumption) ?_ | refine gcall (allowsR c (par.getD j 0) (by unfold LMAX; omega)) ?_ | refine ⟨_, _, .head _, rfl, ?_⟩ | refine And.intro (by show drawOK (opsAt Try.f119 _) _ = true; decide +kernel) ?_); conv => whnf)
              refine ⟨fun ha => ?_, fun ha => ?_⟩
              · conv => whnf
                repeat (refine ⟨gP_of ⟨by omega, by omega⟩, ?_⟩; conv => whnf)
                rw [show ((r : Int) - 1) = ((r - 1 : Nat) : Int) from by omega]
                refine ih i (k + 1) (j + 1) (r - 1) M3 _ (by omega) hi (by omega) (by omega) (by omega) hM3 (fun M9 hM9 => ?_)
                have e : min (min b1 (1 + bR cells par i (k + 1) j (r - 1))) (0 + bR cells par i (k + 1) (j + 1) (r - 1)) = bR cells par i k j r := by
                  rw [hbRe, dif_pos hkr, dif_pos hjl, ← hB1, if_pos ha]
                conv => whnf
                repeat ((first | refine ⟨gP_of ⟨by omega, by omega⟩, ?_⟩ | refine ⟨_, _, .head _, rfl, ?_⟩ | refine And.intro (by show drawOK (opsAt Try.f119 _) _ = true; decide +kernel) ?_); conv => whnf)
                rw [e]
                conv => whnf
                repeat ((refine upA (ek := ekM) (ev := AV.int .i64) (k := (i, k, j, r)) (v := bR cells par i k j r) (es := M9) eqM plainM (.there (.here _)) ?_); conv => whnf)
                exact ⟨_, hM9.set (i, k, j, r), rfl, rfl⟩
              · conv => whnf
                repeat (refine ⟨gP_of ⟨by omega, by omega⟩, ?_⟩; conv => whnf)
                rw [show ((r : Int) - 1) = ((r - 1 : Nat) : Int) from by omega]
                refine ih i (k + 1) (j + 1) (r - 1) M3 _ (by omega) hi (by omega) (by omega) (by omega) hM3 (fun M9 hM9 => ?_)
                have e : min (min b1 (1 + bR cells par i (k + 1) j (r - 1))) (1 + bR cells par i (k + 1) (j + 1) (r - 1)) = bR cells par i k j r := by
                  rw [hbRe, dif_pos hkr, dif_pos hjl, ← hB1, if_neg (by rw [ha]; decide)]
                conv => whnf
                repeat ((first | refine ⟨gP_of ⟨by omega, by omega⟩, ?_⟩ | refine ⟨_, _, .head _, rfl, ?_⟩ | refine And.intro (by show drawOK (opsAt Try.f119 _) _ = true; decide +kernel) ?_); conv => whnf)
                rw [e]
                conv => whnf
                repeat ((refine upA (ek := ekM) (ev := AV.int .i64) (k := (i, k, j, r)) (v := bR cells par i k j r) (es := M9) eqM plainM (.there (.here _)) ?_); conv => whnf)
                exact ⟨_, hM9.set (i, k, j, r), rfl, rfl⟩
            · have hjl : ¬ j < par.length := by omega
              have e : min b1 (1 + bR cells par i (k + 1) j (r - 1)) = bR cells par i k j r := by
                rw [hbRe, dif_pos hkr, dif_neg hjl, ← hB1]
              rw [e]
              obtain ⟨M9, hM9e⟩ : ∃ M9, M9 = M3 := ⟨_, rfl⟩
              have hM9 : MemoOK cells par M9 := by rw [hM9e]; exact hM3
              rw [← hM9e]
              conv => whnf
              repeat ((first | (refine upA (ek := ekM) (ev := AV.int .i64) (k := (i, k, j, r)) (v := bR cells par i k j r) (es := M9) eqM plainM (.there (.here _)) ?_) | refine ⟨_, _, .head _, rfl, ?_⟩
                             | refine And.intro (by show drawOK (opsAt Try.f119 _) _ = true; decide +kernel) ?_); conv => whnf)
              exact ⟨_, hM9.set (i, k, j, r), rfl, rfl⟩
          · have e : b1 = bR cells par i k j r := by
              rw [hbRe, dif_neg (fun h => by simp [h.1, h.2] at hk1)]; exact hB1
            rw [e]
            obtain ⟨M9, hM9e⟩ : ∃ M9, M9 = M2 := ⟨_, rfl⟩
            have hM9 : MemoOK cells par M9 := by rw [hM9e]; exact hM2
            rw [← hM9e]
            conv => whnf
            repeat ((first | (refine upA (ek := ekM) (ev := AV.int .i64) (k := (i, k, j, r)) (v := bR cells par i k j r) (es := M9) eqM plainM (.there (.here _)) ?_) | refine ⟨_, _, .head _, rfl, ?_⟩
                           | refine And.intro (by show drawOK (opsAt Try.f119 _) _ = true; decide +kernel) ?_); conv => whnf)
            exact ⟨_, hM9.set (i, k, j, r), rfl, rfl⟩
end Go.Abs.Wall

