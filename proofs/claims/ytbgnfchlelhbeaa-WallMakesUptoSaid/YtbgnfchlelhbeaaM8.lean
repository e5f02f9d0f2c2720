/- What is proved: small laws for the walks of this seat, and contracts of its functions. No condition but those each theorem names. -/
import Derived.Test.YtbgnfchlelhbeaaM7
import Derived.Test.YtbgnfchlelhbeaaM6
set_option maxRecDepth 100000
set_option linter.unusedVariables false
namespace Go.Abs.Wall
open Go Go.Abs Go.Proofs
/-! ### theory: the automaton of cells -/
/-- a word from a position on -/
def accP (cells : List Cel) (p : Pos) (w : List Int) : Bool := acc (cells.drop p.1.toNat) p.2 w
/-- a position of cells -/
def PV_ (cells : List Cel) (p : Pos) : Prop := p = ((cells.length : Int), 0) ∨ ∃ c, 0 ≤ p.1 ∧ cells[p.1.toNat]? = some c ∧ 0 ≤ p.2 ∧ p.2 ≤ c.mx
theorem accP_end {cells : List Cel} {w : List Int} : accP cells ((cells.length : Int), 0) w = w.isEmpty := by
  unfold accP
  rw [Int.toNat_natCast, List.drop_length, acc]
theorem drop_next {cells : List Cel} {p : Pos} {c : Cel} (h0 : 0 ≤ p.1) (hc : cells[p.1.toNat]? = some c) : cells.drop p.1.toNat = c :: cells.drop (p.1 + 1).toNat := by
  rw [drop_cons hc, show (p.1 + 1).toNat = p.1.toNat + 1 from by omega]
theorem accP_nil {cells : List Cel} {p : Pos} {c : Cel} (h0 : 0 ≤ p.1) (hc : cells[p.1.toNat]? = some c) : accP cells p [] = (decide (c.mn ≤ p.2) && accP cells (p.1 + 1, 0) []) := by
  unfold accP; rw [drop_next h0 hc, acc]
theorem accP_cons {cells : List Cel} {p : Pos} {c : Cel} {s : Int} {w : List Int} (h0 : 0 ≤ p.1) (hc : cells[p.1.toNat]? = some c) :
    accP cells p (s :: w) = ((decide (c.mn ≤ p.2) && accP cells (p.1 + 1, 0) (s :: w)) || (decide (p.2 < c.mx) && allows c s && accP cells (p.1, p.2 + 1) w)) := by
  unfold accP; simp only; rw [drop_next h0 hc, acc]
/-- some word of a list of positions -/
def AccL (cells : List Cel) (l : List Pos) (w : List Int) : Bool := l.any fun p => accP cells p w
theorem AccL_iff {cells : List Cel} {l : List Pos} {w : List Int} : AccL cells l w = true ↔ ∃ p ∈ l, accP cells p w = true := by unfold AccL; rw [List.any_eq_true]
/-- nothing can be gone on to without a sign -/
def Clsd (cells : List Cel) (l : List Pos) : Prop := ∀ p ∈ l, ∀ c, 0 ≤ p.1 → cells[p.1.toNat]? = some c → c.mn ≤ p.2 → (p.1 + 1, (0 : Int)) ∈ l
theorem acc_fin {cells : List Cel} {l : List Pos} (hv : ∀ p ∈ l, PV_ cells p) (hc : Clsd cells l) : AccL cells l [] = true ↔ ((cells.length : Int), (0 : Int)) ∈ l := by
  rw [AccL_iff]
  constructor
  · rintro ⟨p, hp, ha⟩
    have key : ∀ (n : Nat) (p : Pos), p ∈ l → cells.length - p.1.toNat ≤ n → accP cells p [] = true → ((cells.length : Int), (0 : Int)) ∈ l := by
      intro n
      induction n with
      | zero =>
        intro p hp hn ha
        rcases hv p hp with rfl | ⟨c, h0, h1, _⟩
        · exact hp
        · have := (List.getElem?_eq_some_iff.1 h1).1; omega
      | succ n ih =>
        intro p hp hn ha
        rcases hv p hp with rfl | ⟨c, h0, h1, _⟩
        · exact hp
        · rw [accP_nil h0 h1, Bool.and_eq_true, decide_eq_true_eq] at ha
          exact ih _ (hc p hp c h0 h1 ha.1) (by simp only; omega) ha.2
    exact key _ p hp (Nat.le_refl _) ha
  · intro h
    exact ⟨_, h, by rw [accP_end]; rfl⟩
/-- the positions behind a sign -/
def stepL (cells : List Cel) (s : Int) (l : List Pos) : List Pos :=
  l.filterMap fun (p : Pos) => if p.1 < (cells.length : Int) ∧ p.2 < (cells.getD p.1.toNat ⟨0, 0, []⟩).mx ∧ allows (cells.getD p.1.toNat ⟨0, 0, []⟩) s = true then some (p.1, p.2 + 1) else none
theorem getD_of {cells : List Cel} {i : Nat} {c : Cel} (h : cells[i]? = some c) : cells.getD i ⟨0, 0, []⟩ = c := by simp [List.getD, h]
theorem acc_step {cells : List Cel} {l : List Pos} {s : Int} {w : List Int} (hv : ∀ p ∈ l, PV_ cells p) (hc : Clsd cells l) : AccL cells l (s :: w) = AccL cells (stepL cells s l) w := by
  rw [Bool.eq_iff_iff, AccL_iff, AccL_iff]
  constructor
  · rintro ⟨p, hp, ha⟩
    have key : ∀ (n : Nat) (p : Pos), p ∈ l → cells.length - p.1.toNat ≤ n → accP cells p (s :: w) = true → ∃ q ∈ stepL cells s l, accP cells q w = true := by
      intro n
      induction n with
      | zero =>
        intro p hp hn ha
        rcases hv p hp with rfl | ⟨c, h0, h1, _⟩
        · rw [accP_end] at ha; cases ha
        · have := (List.getElem?_eq_some_iff.1 h1).1; omega
      | succ n ih =>
        intro p hp hn ha
        rcases hv p hp with rfl | ⟨c, h0, h1, _⟩
        · rw [accP_end] at ha; cases ha
        · rw [accP_cons h0 h1, Bool.or_eq_true] at ha
          rcases ha with ha | ha
          · rw [Bool.and_eq_true, decide_eq_true_eq] at ha
            exact ih _ (hc p hp c h0 h1 ha.1) (by simp only; omega) ha.2
          · simp only [Bool.and_eq_true, decide_eq_true_eq] at ha
            have hlt := (List.getElem?_eq_some_iff.1 h1).1
            refine ⟨(p.1, p.2 + 1), List.mem_filterMap.2 ⟨p, hp, ?_⟩, ha.2⟩
            rw [getD_of h1, if_pos ⟨by omega, ha.1.1, ha.1.2⟩]
    exact key _ p hp (Nat.le_refl _) ha
  · rintro ⟨q, hq, ha⟩
    obtain ⟨p, hp, he⟩ := List.mem_filterMap.1 hq
    split at he
    · rename_i hcond
      cases he
      rcases hv p hp with rfl | ⟨c, h0, h1, _⟩
      · simp at hcond
      · rw [getD_of h1] at hcond
        refine ⟨p, hp, ?_⟩
        rw [accP_cons h0 h1, Bool.or_eq_true]
        right
        simp [hcond.2.1, hcond.2.2, ha]
    · cases he
theorem stepL_PV {cells : List Cel} {s : Int} {l : List Pos} (hv : ∀ p ∈ l, PV_ cells p) : ∀ q ∈ stepL cells s l, PV_ cells q ∧ 1 ≤ q.2 := by
  intro q hq
  obtain ⟨p, hp, he⟩ := List.mem_filterMap.1 hq
  split at he
  · rename_i hcond
    cases he
    rcases hv p hp with rfl | ⟨c, h0, h1, h2, h3⟩
    · simp at hcond
    · rw [getD_of h1] at hcond
      exact ⟨.inr ⟨c, h0, h1, by simp only; omega, by simp only; omega⟩, by simp only; omega⟩
  · cases he
/-- one list of positions closes another one -/
structure Closes (cells : List Cel) (l R : List Pos) : Prop where
  sub : ∀ p ∈ l, p ∈ R
  pv : ∀ p ∈ R, PV_ cells p
  cl : Clsd cells R
  sound : ∀ p ∈ R, ∀ w, accP cells p w = true → AccL cells l w = true
theorem Closes.acc {cells : List Cel} {l R : List Pos} (h : Closes cells l R) (w : List Int) : AccL cells R w = AccL cells l w := by
  rw [Bool.eq_iff_iff]
  constructor
  · intro ha
    obtain ⟨p, hp, ha⟩ := AccL_iff.1 ha
    exact h.sound p hp w ha
  · intro ha
    obtain ⟨p, hp, ha⟩ := AccL_iff.1 ha
    exact AccL_iff.2 ⟨p, h.sub p hp, ha⟩
theorem accP_eps {cells : List Cel} {p : Pos} {c : Cel} {w : List Int} (h0 : 0 ≤ p.1) (h1 : cells[p.1.toNat]? = some c) (h2 : c.mn ≤ p.2) (ha : accP cells (p.1 + 1, 0) w = true) : accP cells p w = true := by
  cases w with
  | nil => rw [accP_nil h0 h1]; simp [h2, ha]
  | cons s w => rw [accP_cons h0 h1]; simp [h2, ha]
theorem PV_next {cells : List Cel} {p : Pos} {c : Cel} (hm : ∀ c ∈ cells, 0 ≤ c.mx) (h0 : 0 ≤ p.1) (h1 : cells[p.1.toNat]? = some c) : PV_ cells (p.1 + 1, 0) := by
  have hlt := (List.getElem?_eq_some_iff.1 h1).1
  by_cases h : p.1.toNat + 1 < cells.length
  · refine .inr ⟨cells[p.1.toNat + 1], by simp only; omega, ?_, by simp, hm _ (List.getElem_mem h)⟩
    simp only
    rw [show (p.1 + 1).toNat = p.1.toNat + 1 from by omega, List.getElem?_eq_getElem h]
  · exact .inl (by congr 1; omega)
/-- how many signs there can be from a position on -/
def mu (cells : List Cel) (p : Pos) : Int := ((cells.drop p.1.toNat).map (·.mx)).sum - p.2
theorem sum_nn : ∀ {l : List Cel}, (∀ c ∈ l, 0 ≤ c.mx) → 0 ≤ (l.map (·.mx)).sum
  | [], _ => by simp
  | c :: l, h => by
    have h1 := sum_nn (l := l) fun d hd => h d (by simp [hd])
    have h2 := h c (by simp)
    simp only [List.map_cons, List.sum_cons]; omega
theorem acc_mu : ∀ (cs : List Cel) (k : Int) (w : List Int), (∀ c ∈ cs, 0 ≤ c.mx) → (cs = [] → k = 0) → (∀ c, cs[0]? = some c → k ≤ c.mx) → acc cs k w = true → (w.length : Int) ≤ (cs.map (·.mx)).sum - k
  | [], k, w, _, hk, _, h => by rw [acc] at h; simp at h; subst h; simp [hk rfl]
  | c :: cs, k, [], hm, _, hk, h => by
    have h1 := sum_nn (l := cs) fun d hd => hm d (by simp [hd])
    have h2 := hk c rfl
    simp only [List.map_cons, List.sum_cons, List.length_nil]; omega
  | c :: cs, k, s :: w, hm, _, hk, h => by
    have h2 := hk c rfl
    rw [acc, Bool.or_eq_true] at h
    simp only [Bool.and_eq_true, decide_eq_true_eq] at h
    rcases h with h | h
    · have := acc_mu cs 0 (s :: w) (fun d hd => hm d (by simp [hd])) (fun _ => rfl) (fun d hd => hm d (by simp [List.mem_of_getElem? hd])) h.2
      simp only [List.map_cons, List.sum_cons] at *; omega
    · have := acc_mu (c :: cs) (k + 1) w hm (by simp) (fun d hd => by simp at hd; subst hd; omega) h.2
      simp only [List.map_cons, List.sum_cons, List.length_cons] at *; omega
termination_by cs _ w => cs.length + w.length
theorem accP_mu {cells : List Cel} {p : Pos} {w : List Int} (hm : ∀ c ∈ cells, 0 ≤ c.mx) (hp : PV_ cells p) (h : accP cells p w = true) : (w.length : Int) ≤ mu cells p := by
  refine acc_mu _ _ _ (fun c hc => hm c (List.mem_of_mem_drop hc)) (fun e => ?_) (fun c hc => ?_) h
  · rcases hp with rfl | ⟨c, h0, h1, _⟩
    · rfl
    · have := (List.getElem?_eq_some_iff.1 h1).1
      rw [List.drop_eq_nil_iff] at e; omega
  · rcases hp with rfl | ⟨d, h0, h1, h2, h3⟩
    · rw [Int.toNat_natCast, List.drop_length] at hc; cases hc
    · rw [List.getElem?_drop, Nat.add_zero, h1] at hc
      cases hc; exact h3
theorem mu_le {cells : List Cel} {p : Pos} (hm : ∀ c ∈ cells, 0 ≤ c.mx) (h0 : 0 ≤ p.2) : mu cells p ≤ (cells.map (·.mx)).sum := by
  unfold mu
  have h1 := sum_nn (l := cells.take p.1.toNat) fun c hc => hm c (List.mem_of_mem_take hc)
  have : (cells.map (·.mx)).sum = ((cells.take p.1.toNat).map (·.mx)).sum + ((cells.drop p.1.toNat).map (·.mx)).sum := by
    rw [← List.sum_append, ← List.map_append, List.take_append_drop]
  omega
end Go.Abs.Wall
set_option maxRecDepth 100000
set_option linter.unusedVariables false
namespace Go.Abs.Wall
open Go Go.Abs Go.Proofs
/-! ### theory: the program's sets -/
def at_ (ps : List Pos) (x : Int) : Pos := ps.getD x.toNat (0, 0)
def IR (ps : List Pos) (x : Int) : Prop := 0 ≤ x ∧ x < ps.length
def posS (ps : List Pos) (set : List Int) : List Pos := set.map (at_ ps)
theorem at_get {ps : List Pos} {x : Int} (h : IR ps x) : ps[x.toNat]? = some (at_ ps x) := by
  obtain ⟨h1, h2⟩ := h
  unfold at_
  rw [getD_lt (by omega), List.getElem?_eq_getElem (by omega)]
theorem PosT.pv {cells : List Cel} {ps : List Pos} (hT : PosT cells ps) {x : Int} (h : IR ps x) : PV_ cells (at_ ps x) := by
  rcases hT.each x.toNat _ (at_get h) with ⟨e, _⟩ | ⟨j, c, h1, h2, h3, h4, _⟩
  · left; rw [e]; simp
  · right; exact ⟨c, by omega, by rw [show (at_ ps x).1.toNat = j from by omega]; exact h1, h3, h4⟩
theorem PosT.next {cells : List Cel} {ps : List Pos} (hT : PosT cells ps) {x : Int} {c : Cel} (h : IR ps x) (h0 : 0 ≤ (at_ ps x).1) (hc : cells[(at_ ps x).1.toNat]? = some c) :
    IR ps (nextIx ps (at_ ps x).1) ∧ at_ ps (nextIx ps (at_ ps x).1) = ((at_ ps x).1 + 1, 0) := by
  have hlt := (List.getElem?_eq_some_iff.1 hc).1
  rcases hT.each x.toNat _ (at_get h) with ⟨e, _⟩ | ⟨j, d, h1, h2, h3, h4, ⟨y, h5, h6⟩, _⟩
  · rw [e] at hlt; simp at hlt
  · have hy := idxOf_look hT.nodup h6
    have hyl := (List.getElem?_eq_some_iff.1 h6).1
    unfold nextIx
    rw [hy]
    simp only [Option.getD_some]
    refine ⟨⟨by omega, by omega⟩, ?_⟩
    unfold at_
    simp only [Int.toNat_natCast]
    have : ps.getD y (0, 0) = ((at_ ps x).1 + 1, 0) := by simp [List.getD, h6]
    exact this
theorem PosT.succ {cells : List Cel} {ps : List Pos} (hT : PosT cells ps) {x : Int} {c : Cel} (h : IR ps x) (h0 : 0 ≤ (at_ ps x).1) (hc : cells[(at_ ps x).1.toNat]? = some c) (hlt2 : (at_ ps x).2 < c.mx) :
    IR ps (x + 1) ∧ at_ ps (x + 1) = ((at_ ps x).1, (at_ ps x).2 + 1) ∧ lookA ((at_ ps x).1, (at_ ps x).2 + 1) (idxOf ps) = some (x + 1) := by
  have hlt := (List.getElem?_eq_some_iff.1 hc).1
  obtain ⟨hx0, hx1⟩ := h
  rcases hT.each x.toNat _ (at_get ⟨hx0, hx1⟩) with ⟨e, _⟩ | ⟨j, d, h1, h2, h3, h4, _, h7⟩
  · rw [e] at hlt; simp at hlt
  · rw [show (at_ ps x).1.toNat = j from by omega, h1] at hc
    cases hc
    have h8 := h7 hlt2
    have hyl := (List.getElem?_eq_some_iff.1 h8).1
    refine ⟨⟨by omega, by omega⟩, ?_, ?_⟩
    · unfold at_ at h8 ⊢
      rw [show (x + 1).toNat = x.toNat + 1 from by omega]
      generalize ps.getD x.toNat (0, 0) = P at h8
      simp [List.getD, h8]
    · rw [idxOf_look hT.nodup h8]; congr 1; omega
theorem PosT.inj {cells : List Cel} {ps : List Pos} (hT : PosT cells ps) {x y : Int} (hx : IR ps x) (hy : IR ps y) (h : at_ ps x = at_ ps y) : x = y := by
  have h1 := at_get hx
  have h2 := at_get hy
  rw [h, ← h2] at h1
  have := (List.getElem?_inj (by have := hx.1; have := hx.2; omega) hT.nodup).1 h1
  have := hx.1; have := hy.1; omega
def phi (cells : List Cel) (ps : List Pos) (x : Int) : Nat := (cells.length - (at_ ps x).1.toNat) + 1
def phis (cells : List Cel) (ps : List Pos) (q : List Int) : Nat := (q.map (phi cells ps)).sum
def ClsI (cells : List Cel) (ps : List Pos) (A B : List Int) : Prop := ∀ x ∈ A, ∀ c, 0 ≤ (at_ ps x).1 → cells[(at_ ps x).1.toNat]? = some c → c.mn ≤ (at_ ps x).2 → nextIx ps (at_ ps x).1 ∈ B
theorem mem_insL {x y : Int} {l : List Int} : y ∈ insL x l ↔ y = x ∨ y ∈ l := by
  unfold insL
  split
  · rename_i h
    exact ⟨.inr, fun h' => h'.elim (fun e => e ▸ h) id⟩
  · simp [or_comm]
structure BfsR (cells : List Cel) (ps : List Pos) (q seen R : List Int) : Prop where
  nodup : R.Nodup
  ir : ∀ x ∈ R, IR ps x
  old : ∀ x ∈ seen, x ∈ R
  qs : ∀ x ∈ q, x ∈ R
  cl : ClsI cells ps R R
  all : ∀ Q : Int → Prop, (∀ y, (y ∈ seen ∨ y ∈ q) → Q y) → (∀ x c, IR ps x → 0 ≤ (at_ ps x).1 → cells[(at_ ps x).1.toNat]? = some c → c.mn ≤ (at_ ps x).2 → Q x → Q (nextIx ps (at_ ps x).1)) → ∀ x ∈ R, Q x
theorem BfsR.sound {cells : List Cel} {ps : List Pos} {q seen R : List Int} (hT : PosT cells ps) (h : BfsR cells ps q seen R) : ∀ x ∈ R, ∀ w, accP cells (at_ ps x) w = true → ∃ y, (y ∈ seen ∨ y ∈ q) ∧ accP cells (at_ ps y) w = true := by
  intro x hx w
  refine h.all (fun x => accP cells (at_ ps x) w = true → ∃ y, (y ∈ seen ∨ y ∈ q) ∧ accP cells (at_ ps y) w = true) (fun y hy ha => ⟨y, hy, ha⟩) (fun z c hz c0 c1 c2 hQ ha => hQ (accP_eps c0 c1 c2 ?_)) x hx
  rw [(hT.next hz c0 c1).2] at ha
  exact ha
theorem bfs_spec {cells : List Cel} {ps : List Pos} (hT : PosT cells ps) : ∀ (f : Nat) (q seen : List Int), (∀ x ∈ q, IR ps x) → (∀ x ∈ seen, IR ps x) → phis cells ps q ≤ f →
    (∀ x ∈ seen, ∀ c, 0 ≤ (at_ ps x).1 → cells[(at_ ps x).1.toNat]? = some c → c.mn ≤ (at_ ps x).2 → nextIx ps (at_ ps x).1 ∈ seen ∨ nextIx ps (at_ ps x).1 ∈ q) → seen.Nodup →
    ∃ R, bfs cells ps f q seen = some R ∧ BfsR cells ps q seen R
  | f, [], seen, _, hs, _, hcl, hn => by
    refine ⟨seen, by cases f <;> rfl, hn, hs, fun x h => h, by simp, fun x hx c h0 h1 h2 => ?_, fun Q h1 _ x hx => h1 x (.inl hx)⟩
    rcases hcl x hx c h0 h1 h2 with h | h
    · exact h
    · cases h
  | 0, x :: q, seen, _, _, hf, _, _ => by
    unfold phis phi at hf
    simp only [List.map_cons, List.sum_cons] at hf; omega
  | f + 1, x :: q, seen, hq, hs, hf, hcl, hn => by
    have hx := hq x (by simp)
    have hpx := at_get hx
    have hphi : phis cells ps (x :: q) = phi cells ps x + phis cells ps q := by unfold phis; simp
    rw [hphi] at hf
    have hph1 : 1 ≤ phi cells ps x := by unfold phi; omega
    have hins : ∀ y ∈ insL x seen, IR ps y := fun y hy => by rcases mem_insL.1 hy with rfl | h; exact hx; exact hs y h
    rw [bfs, if_neg (by have := hx.1; omega), hpx]
    simp only
    rw [if_neg (by rcases hT.pv hx with h | ⟨c, h0, _⟩; rw [h]; simp; omega)]
    have hback : ∀ {q2 R : List Int} (hR : BfsR cells ps q2 (insL x seen) R), (∀ y ∈ q, y ∈ q2) → (∀ y ∈ q2, y ∈ q ∨ (∃ c, 0 ≤ (at_ ps x).1 ∧ cells[(at_ ps x).1.toNat]? = some c ∧ c.mn ≤ (at_ ps x).2 ∧ y = nextIx ps (at_ ps x).1)) → BfsR cells ps (x :: q) seen R := by
      intro q2 R hR h1 h2
      refine ⟨hR.nodup, hR.ir, fun y hy => hR.old y (mem_insL.2 (.inr hy)), fun y hy => ?_, hR.cl, fun Q g1 g2 => ?_⟩
      · rcases List.mem_cons.1 hy with rfl | hy
        · exact hR.old y (mem_insL.2 (.inl rfl))
        · exact hR.qs y (h1 y hy)
      · refine hR.all Q (fun z hz => ?_) g2
        rcases hz with hz | hz
        · rcases mem_insL.1 hz with rfl | hz
          · exact g1 z (.inr (by simp))
          · exact g1 z (.inl hz)
        · rcases h2 z hz with hz | ⟨c, c1, c2, c3, rfl⟩
          · exact g1 z (.inr (by simp [hz]))
          · exact g2 x c hx c1 c2 c3 (g1 x (.inr (by simp)))
    have hcl2 : ∀ {q2 : List Int}, (∀ y ∈ q, y ∈ q2) → (∀ c, 0 ≤ (at_ ps x).1 → cells[(at_ ps x).1.toNat]? = some c → c.mn ≤ (at_ ps x).2 → nextIx ps (at_ ps x).1 ∈ insL x seen ∨ nextIx ps (at_ ps x).1 ∈ q2) →
        ∀ y ∈ insL x seen, ∀ c, 0 ≤ (at_ ps y).1 → cells[(at_ ps y).1.toNat]? = some c → c.mn ≤ (at_ ps y).2 → nextIx ps (at_ ps y).1 ∈ insL x seen ∨ nextIx ps (at_ ps y).1 ∈ q2 := by
      intro q2 h1 h2 y hy c c0 c1 c2
      rcases mem_insL.1 hy with rfl | hy
      · exact h2 c c0 c1 c2
      · rcases hcl y hy c c0 c1 c2 with h | h
        · exact .inl (mem_insL.2 (.inr h))
        · rcases List.mem_cons.1 h with h | h
          · exact .inl (mem_insL.2 (.inl h))
          · exact .inr (h1 _ h)
    by_cases hb : (at_ ps x).1 < cells.length ∧ (cells.getD (at_ ps x).1.toNat ⟨0, 0, []⟩).mn ≤ (at_ ps x).2
    · rw [if_pos hb]
      rcases hT.pv hx with h | ⟨c, c0, c1, c2, c3⟩
      · rw [h] at hb; simp at hb
      rw [getD_of c1] at hb
      obtain ⟨hnr, hna⟩ := hT.next hx c0 c1
      by_cases hin : nextIx ps (at_ ps x).1 ∈ insL x seen
      · rw [if_pos hin]
        obtain ⟨R, hR, hRR⟩ := bfs_spec hT f q (insL x seen) (fun y hy => hq y (by simp [hy])) hins (by omega) (hcl2 (fun y hy => hy) fun d _ _ _ => .inl hin) (insL_nodup hn)
        exact ⟨R, hR, hback hRR (fun y hy => hy) fun y hy => .inl hy⟩
      · rw [if_neg hin]
        have hphn : phi cells ps (nextIx ps (at_ ps x).1) + 1 ≤ phi cells ps x := by
          unfold phi
          rw [hna]
          have := (List.getElem?_eq_some_iff.1 c1).1
          simp only; omega
        obtain ⟨R, hR, hRR⟩ := bfs_spec hT f (q ++ [nextIx ps (at_ ps x).1]) (insL x seen) (fun y hy => by
            rcases List.mem_append.1 hy with hy | hy
            · exact hq y (by simp [hy])
            · rw [List.mem_singleton.1 hy]; exact hnr) hins (by
            have : phis cells ps (q ++ [nextIx ps (at_ ps x).1]) = phis cells ps q + phi cells ps (nextIx ps (at_ ps x).1) := by unfold phis; simp
            omega) (hcl2 (fun y hy => by simp [hy]) fun d _ _ _ => .inr (by simp)) (insL_nodup hn)
        exact ⟨R, hR, hback hRR (fun y hy => by simp [hy]) fun y hy => by
          rcases List.mem_append.1 hy with hy | hy
          · exact .inl hy
          · exact .inr ⟨c, c0, c1, hb.2, List.mem_singleton.1 hy⟩⟩
    · rw [if_neg hb]
      obtain ⟨R, hR, hRR⟩ := bfs_spec hT f q (insL x seen) (fun y hy => hq y (by simp [hy])) hins (by omega) (hcl2 (fun y hy => hy) fun d d0 d1 d2 => absurd ⟨by have := (List.getElem?_eq_some_iff.1 d1).1; omega, by rw [getD_of d1]; exact d2⟩ hb) (insL_nodup hn)
      exact ⟨R, hR, hback hRR (fun y hy => hy) fun y hy => .inl hy⟩
/-- a set that the search holds -/
structure SO (cells : List Cel) (ps : List Pos) (set : List Int) : Prop where
  ne : set ≠ []
  nodup : set.Nodup
  ir : ∀ x ∈ set, IR ps x
  cl : ClsI cells ps set set
def Acc (cells : List Cel) (ps : List Pos) (set : List Int) (w : List Int) : Bool := AccL cells (posS ps set) w
theorem Acc_iff {cells : List Cel} {ps : List Pos} {set w : List Int} : Acc cells ps set w = true ↔ ∃ x ∈ set, accP cells (at_ ps x) w = true := by
  unfold Acc posS
  rw [AccL_iff]
  constructor
  · rintro ⟨p, hp, ha⟩
    obtain ⟨x, hx, rfl⟩ := List.mem_map.1 hp
    exact ⟨x, hx, ha⟩
  · rintro ⟨x, hx, ha⟩
    exact ⟨_, List.mem_map.2 ⟨x, hx, rfl⟩, ha⟩
theorem SO.pv {cells : List Cel} {ps : List Pos} {set : List Int} (hT : PosT cells ps) (h : ∀ x ∈ set, IR ps x) : ∀ p ∈ posS ps set, PV_ cells p := by
  intro p hp
  obtain ⟨x, hx, rfl⟩ := List.mem_map.1 hp
  exact hT.pv (h x hx)
theorem SO.clsd {cells : List Cel} {ps : List Pos} {set : List Int} (hT : PosT cells ps) (h : ∀ x ∈ set, IR ps x) (hc : ClsI cells ps set set) : Clsd cells (posS ps set) := by
  intro p hp c h0 h1 h2
  obtain ⟨x, hx, rfl⟩ := List.mem_map.1 hp
  refine List.mem_map.2 ⟨_, hc x hx c h0 h1 h2, (hT.next (h x hx) h0 h1).2⟩
theorem SO.len {cells : List Cel} {ps : List Pos} {set : List Int} (h : SO cells ps set) : set.length ≤ ps.length := by
  have h2 : (set.map Int.toNat).Nodup := by
    rw [List.nodup_iff_pairwise_ne, List.pairwise_map]
    refine h.nodup.imp_of_mem ?_
    intro a b ha hb hab e
    have := (h.ir a ha).1; have := (h.ir b hb).1
    exact hab (by omega)
  have := mem_len h2 (n := ps.length) (fun i hi => by
    obtain ⟨x, hx, rfl⟩ := List.mem_map.1 hi
    have := h.ir x hx
    unfold IR at this; omega)
  simpa using this
theorem SO.fin {cells : List Cel} {ps : List Pos} {set : List Int} (hT : PosT cells ps) (h : SO cells ps set) : Acc cells ps set [] = decide ((ps.length - 1 : Int) ∈ set) := by
  rw [Bool.eq_iff_iff, decide_eq_true_eq]
  unfold Acc
  rw [acc_fin (SO.pv hT h.ir) (SO.clsd hT h.ir h.cl)]
  have hl : IR ps (ps.length - 1 : Int) := ⟨by have := hT.len; omega, by omega⟩
  have hlast : at_ ps (ps.length - 1 : Int) = ((cells.length : Int), 0) := by
    have h1 := at_get hl
    rw [show ((ps.length : Int) - 1).toNat = ps.length - 1 from by omega, hT.last] at h1
    exact (Option.some.inj h1).symm
  constructor
  · intro hm
    obtain ⟨x, hx, e⟩ := List.mem_map.1 hm
    rw [hT.inj hl (h.ir x hx) (by rw [hlast, e])]; exact hx
  · intro hm
    exact List.mem_map.2 ⟨_, hm, hlast⟩
theorem posS_isort (ps : List Pos) (R : List Int) (cells : List Cel) (w : List Int) : Acc cells ps (isort R) w = Acc cells ps R w := by
  rw [Bool.eq_iff_iff, Acc_iff, Acc_iff]
  constructor
  · rintro ⟨x, hx, ha⟩; exact ⟨x, (isort_perm R).mem_iff.1 hx, ha⟩
  · rintro ⟨x, hx, ha⟩; exact ⟨x, (isort_perm R).mem_iff.2 hx, ha⟩
theorem SO.ofBfs {cells : List Cel} {ps : List Pos} {q R : List Int} (hT : PosT cells ps) (hR : BfsR cells ps q [] R) (hq : q ≠ []) : SO cells ps (isort R) ∧ ∀ w, Acc cells ps (isort R) w = Acc cells ps q w := by
  refine ⟨⟨fun e => ?_, (isort_perm R).nodup_iff.2 hR.nodup, fun x hx => hR.ir x ((isort_perm R).mem_iff.1 hx), fun x hx c h0 h1 h2 => (isort_perm R).mem_iff.2 (hR.cl x ((isort_perm R).mem_iff.1 hx) c h0 h1 h2)⟩, fun w => ?_⟩
  · obtain ⟨x, q', rfl⟩ := List.exists_cons_of_ne_nil hq
    have := (isort_perm R).mem_iff.2 (hR.qs x (by simp))
    rw [e] at this; cases this
  · rw [posS_isort, Bool.eq_iff_iff, Acc_iff, Acc_iff]
    constructor
    · rintro ⟨x, hx, ha⟩
      obtain ⟨y, hy, hay⟩ := hR.sound hT x hx w ha
      rcases hy with hy | hy
      · cases hy
      · exact ⟨y, hy, hay⟩
    · rintro ⟨x, hx, ha⟩; exact ⟨x, hR.qs x hx, ha⟩
theorem phis_le (cells : List Cel) (ps : List Pos) : ∀ q : List Int, phis cells ps q ≤ q.length * (cells.length + 1)
  | [] => by simp [phis]
  | x :: q => by
    have := phis_le cells ps q
    have e : phis cells ps (x :: q) = phi cells ps x + phis cells ps q := by unfold phis; simp
    have h1 : phi cells ps x ≤ cells.length + 1 := by unfold phi; omega
    rw [e, List.length_cons, Nat.add_mul]; omega
theorem stepM_spec {cells : List Cel} {ps : List Pos} (hT : PosT cells ps) (s : Int) : ∀ {set : List Int}, (∀ x ∈ set, IR ps x) → ∃ o, stepM cells ps s set = some o ∧ (∀ x ∈ o, IR ps x) ∧ posS ps o = stepL cells s (posS ps set) ∧ o.length ≤ set.length
  | [], _ => ⟨[], rfl, by simp, rfl, by simp⟩
  | x :: set, h => by
    obtain ⟨o, h1, h2, h3, h4⟩ := stepM_spec hT s (set := set) fun y hy => h y (by simp [hy])
    have hx := h x (by simp)
    have hpx := at_get hx
    have e : stepL cells s (posS ps (x :: set)) = (if (at_ ps x).1 < (cells.length : Int) ∧ (at_ ps x).2 < (cells.getD (at_ ps x).1.toNat ⟨0, 0, []⟩).mx ∧ allows (cells.getD (at_ ps x).1.toNat ⟨0, 0, []⟩) s = true then [((at_ ps x).1, (at_ ps x).2 + 1)] else []) ++ stepL cells s (posS ps set) := by
      unfold stepL posS
      rw [List.map_cons, List.filterMap_cons]
      split <;> rename_i hh <;> split at hh <;> simp_all
    have hp := hT.pv hx
    rw [stepM, if_neg (by have := hx.1; omega), hpx, e]
    simp only
    have hnn : ¬ ((at_ ps x).1 < 0 ∨ (at_ ps x).2 < 0) := by
      rcases hp with h | ⟨c, h0, _, h2, _⟩
      · rw [h]; simp
      · omega
    rw [if_neg hnn]
    by_cases hb : (at_ ps x).1 < (cells.length : Int) ∧ (at_ ps x).2 < (cells.getD (at_ ps x).1.toNat ⟨0, 0, []⟩).mx ∧ allows (cells.getD (at_ ps x).1.toNat ⟨0, 0, []⟩) s = true
    · rw [if_pos hb, if_pos hb, h1]
      rcases hp with h' | ⟨c, c0, c1, c2, c3⟩
      · rw [h'] at hb; simp at hb
      rw [getD_of c1] at hb
      obtain ⟨q1, q2, q3⟩ := hT.succ hx c0 c1 hb.2.1
      rw [q3]
      refine ⟨(x + 1) :: o, rfl, fun y hy => ?_, ?_, by simp; omega⟩
      · rcases List.mem_cons.1 hy with rfl | hy
        · exact q1
        · exact h2 y hy
      · rw [← h3, ← q2]; rfl
    · rw [if_neg hb, if_neg hb]
      exact ⟨o, h1, h2, by rw [h3]; rfl, by simp; omega⟩
theorem mu_next {cells : List Cel} {p : Pos} {c : Cel} (h0 : 0 ≤ p.1) (h1 : cells[p.1.toNat]? = some c) (h2 : p.2 ≤ c.mx) : mu cells (p.1 + 1, 0) ≤ mu cells p := by
  unfold mu
  rw [drop_next h0 h1, List.map_cons, List.sum_cons]
  simp only; omega
theorem BfsR.mu {cells : List Cel} {ps : List Pos} {q R : List Int} {B : Int} (hT : PosT cells ps) (h : BfsR cells ps q [] R) (hq : ∀ x ∈ q, Wall.mu cells (at_ ps x) ≤ B) : ∀ x ∈ R, Wall.mu cells (at_ ps x) ≤ B := by
  refine h.all (fun x => Wall.mu cells (at_ ps x) ≤ B) (fun y hy => by rcases hy with hy | hy; cases hy; exact hq y hy) (fun z c hz c0 c1 c2 hQ => ?_)
  rw [(hT.next hz c0 c1).2]
  have := mu_next c0 c1 (by
    rcases hT.pv hz with h | ⟨d, _, d1, d2, d3⟩
    · rw [h] at c1; simp at c1
    · rw [c1] at d1; cases d1; exact d3)
  omega
theorem stepL_mu {cells : List Cel} {s : Int} {l : List Pos} {B : Int} (h : ∀ p ∈ l, mu cells p ≤ B) : ∀ q ∈ stepL cells s l, mu cells q ≤ B - 1 := by
  intro q hq
  obtain ⟨p, hp, he⟩ := List.mem_filterMap.1 hq
  split at he
  · cases he
    have := h p hp
    unfold mu at this ⊢
    simp only; omega
  · cases he
/-- behind a sign -/
theorem afterM_spec {cells : List Cel} {ps : List Pos} (hT : PosT cells ps) (hcl : cells.length ≤ 40) (hpl : ps.length ≤ 401) {set : List Int} (h : SO cells ps set) (s : Int) {F : Nat} (hF : 16441 ≤ F) :
    ∃ nx, afterM F cells ps set s = some nx ∧ (nx = [] ∨ SO cells ps nx) ∧ (∀ w, Acc cells ps nx w = Acc cells ps set (s :: w)) ∧ ∀ B : Int, (∀ x ∈ set, mu cells (at_ ps x) ≤ B) → ∀ x ∈ nx, mu cells (at_ ps x) ≤ B - 1 := by
  obtain ⟨o, h1, h2, h3, h4⟩ := stepM_spec hT s h.ir
  have hsl := h.len
  have hst : ∀ w, Acc cells ps o w = Acc cells ps set (s :: w) := fun w => by
    unfold Acc
    rw [h3, ← acc_step (SO.pv hT h.ir) (SO.clsd hT h.ir h.cl)]
  unfold afterM
  rw [h1]
  simp only
  by_cases ho : o = []
  · subst ho
    exact ⟨[], if_pos rfl, .inl rfl, hst, by simp⟩
  · rw [if_neg ho]
    have hph : phis cells ps o ≤ F := by
      have h5 := phis_le cells ps o
      have h6 : o.length * (cells.length + 1) ≤ 401 * 41 := Nat.mul_le_mul (by omega) (by omega)
      omega
    obtain ⟨R, hR, hRR⟩ := bfs_spec hT F o [] h2 (by simp) hph (by simp) (by simp)
    rw [hR]
    obtain ⟨g1, g2⟩ := SO.ofBfs hT hRR ho
    refine ⟨isort R, rfl, .inr g1, fun w => (g2 w).trans (hst w), fun B hB x hx => ?_⟩
    refine hRR.mu hT (fun y hy => ?_) x ((isort_perm R).mem_iff.1 hx)
    refine stepL_mu (s := s) (l := posS ps set) (fun p hp => ?_) (at_ ps y) (by rw [← h3]; exact List.mem_map.2 ⟨y, hy, rfl⟩)
    obtain ⟨z, hz, rfl⟩ := List.mem_map.1 hp
    exact hB z hz
/-- the beginning -/
theorem begin_spec {cells : List Cel} {ps : List Pos} (hT : PosT cells ps) (hcl : cells.length ≤ 40) {F : Nat} (hF : 41 ≤ F) : ∃ R, bfs cells ps F [0] [] = some R ∧ SO cells ps (isort R) ∧ ∀ w, Acc cells ps (isort R) w = acc cells 0 w := by
  have h0 : IR ps 0 := ⟨by omega, by have := hT.len; omega⟩
  have hz : at_ ps 0 = (0, 0) := by
    have h1 := at_get h0
    rw [show (0 : Int).toNat = 0 from rfl, hT.zero] at h1
    exact (Option.some.inj h1).symm
  obtain ⟨R, hR, hRR⟩ := bfs_spec hT F [0] [] (by simp; exact h0) (by simp) (by have := phis_le cells ps [0]; simp only [List.length_singleton] at this; omega) (by simp) (by simp)
  obtain ⟨g1, g2⟩ := SO.ofBfs hT hRR (by simp)
  refine ⟨R, hR, g1, fun w => ?_⟩
  rw [g2, Bool.eq_iff_iff, Acc_iff]
  unfold accP
  constructor
  · rintro ⟨x, hx, ha⟩
    simp only [List.mem_singleton] at hx
    subst hx
    rw [hz] at ha; simpa using ha
  · intro ha
    exact ⟨0, by simp, by rw [hz]; simpa using ha⟩
end Go.Abs.Wall
set_option maxRecDepth 100000
set_option linter.unusedVariables false
namespace Go.Abs.Wall
open Go Go.Abs Go.Proofs
/-! ### theory: words, and how many there are -/
def words (n : Int) : Nat → List (List Int)
  | 0 => [[]]
  | r + 1 => (upto n).flatMap fun s => (words n r).map (s :: ·)
theorem words_len {n : Int} : ∀ {r : Nat}, ∀ w ∈ words n r, w.length = r
  | 0, w, h => by simp [words] at h; subst h; rfl
  | r + 1, w, h => by
    rw [words, List.mem_flatMap] at h
    obtain ⟨s, _, h⟩ := h
    obtain ⟨v, hv, rfl⟩ := List.mem_map.1 h
    simp [words_len v hv]
theorem mem_upto {n s : Int} : s ∈ upto n ↔ (0 ≤ s ∧ s < n) := by
  unfold upto
  rw [List.mem_map]
  constructor
  · rintro ⟨i, hi, rfl⟩; have := List.mem_range.1 hi; omega
  · rintro ⟨h1, h2⟩; exact ⟨s.toNat, List.mem_range.2 (by omega), by omega⟩
theorem mem_words {n : Int} : ∀ {w : List Int}, w ∈ words n w.length ↔ ∀ s ∈ w, 0 ≤ s ∧ s < n
  | [] => by simp [words]
  | s :: w => by
    rw [List.length_cons, words, List.mem_flatMap]
    constructor
    · rintro ⟨t, ht, h⟩
      obtain ⟨v, hv, e⟩ := List.mem_map.1 h
      cases e
      intro x hx
      rcases List.mem_cons.1 hx with rfl | hx
      · exact mem_upto.1 ht
      · exact (mem_words.1 hv) x hx
    · intro h
      exact ⟨s, mem_upto.2 (h s (by simp)), List.mem_map.2 ⟨w, mem_words.2 fun x hx => h x (by simp [hx]), rfl⟩⟩
/-- how many words shorter than R are accepted -/
def tot (n : Int) (A : List Int → Bool) : Nat → Int
  | 0 => 0
  | R + 1 => (((words n R).filter A).length : Int) + tot n A R
theorem tot_nn (n : Int) (A : List Int → Bool) : ∀ R, 0 ≤ tot n A R
  | 0 => Int.le_refl _
  | R + 1 => by have := tot_nn n A R; rw [tot]; omega
theorem filter_words (n : Int) (A : List Int → Bool) (r : Nat) : (((words n (r + 1)).filter A).length : Int) = ((upto n).map fun s => (((words n r).filter fun w => A (s :: w)).length : Int)).sum := by
  rw [words]
  induction upto n with
  | nil => rfl
  | cons s l ih =>
    rw [List.flatMap_cons, List.filter_append, List.length_append, List.map_cons, List.sum_cons, List.filter_map, List.length_map, ← ih]
    simp [Function.comp_def]
theorem sum_add_map (l : List Int) (f g : Int → Int) : (l.map fun s => f s + g s).sum = (l.map f).sum + (l.map g).sum := by
  induction l with
  | nil => simp
  | cons x l ih => simp only [List.map_cons, List.sum_cons, ih]; omega
theorem sum_zero (l : List Int) : (l.map fun _ => (0 : Int)).sum = 0 := by
  induction l with
  | nil => rfl
  | cons x l ih => simp only [List.map_cons, List.sum_cons, ih]; rfl
theorem tot_succ (n : Int) (A : List Int → Bool) : ∀ R, tot n A (R + 1) = (if A [] = true then 1 else 0) + ((upto n).map fun s => tot n (fun w => A (s :: w)) R).sum
  | 0 => by
    simp only [tot, words]
    rw [sum_zero]
    by_cases h : A [] = true
    · rw [if_pos h]; simp [h]
    · rw [if_neg h]; simp [h]
  | R + 1 => by
    rw [tot, tot_succ n A R, filter_words]
    have : ((upto n).map fun s => tot n (fun w => A (s :: w)) (R + 1)) = (upto n).map fun s => (((words n R).filter fun w => A (s :: w)).length : Int) + tot n (fun w => A (s :: w)) R := rfl
    rw [this, sum_add_map]; omega
theorem tot_more {n : Int} {A : List Int → Bool} {R : Nat} (h : ∀ w, A w = true → w.length < R) : ∀ d, tot n A (R + d) = tot n A R
  | 0 => rfl
  | d + 1 => by
    rw [show R + (d + 1) = (R + d) + 1 from rfl, tot, tot_more h d]
    have : (words n (R + d)).filter A = [] := by
      rw [List.filter_eq_nil_iff]
      intro w hw ha
      have := h w ha
      rw [words_len w hw] at this; omega
    rw [this]; simp
theorem tot_eq {n : Int} {A : List Int → Bool} {R S : Nat} (h1 : ∀ w, A w = true → w.length < R) (h2 : ∀ w, A w = true → w.length < S) : tot n A R = tot n A S := by
  rcases Nat.le_total R S with h | h
  · have := tot_more (n := n) h1 (S - R); rw [show R + (S - R) = S from by omega] at this; exact this.symm
  · have := tot_more (n := n) h2 (R - S); rw [show S + (R - S) = R from by omega] at this; exact this
theorem tot_congr {n : Int} {A B : List Int → Bool} (h : ∀ w, A w = B w) (R : Nat) : tot n A R = tot n B R := by rw [show A = B from funext h]
theorem tot_zero {n : Int} {A : List Int → Bool} (h : ∀ w, A w = false) : ∀ R, tot n A R = 0
  | 0 => rfl
  | R + 1 => by
    rw [tot, tot_zero h R, List.filter_eq_nil_iff.2 (fun w _ => by rw [h w]; decide)]; rfl
/-! ### theory: keys -/
theorem runesL_cons (x : Int) (l : List Int) : runesL (x :: l) = (Utf8.encode x).data.toList ++ runesL l := by
  unfold runesL runesBytes
  have key : ∀ (l : List Int) (b : ByteArray), (l.foldl (fun r n => r ++ Utf8.encode n) b).data.toList = b.data.toList ++ (l.foldl (fun r n => r ++ Utf8.encode n) ByteArray.empty).data.toList := by
    intro l
    induction l with
    | nil => intro b; simp
    | cons y l ih =>
      intro b
      rw [List.foldl_cons, List.foldl_cons, ih (b ++ Utf8.encode y), ih (ByteArray.empty ++ Utf8.encode y)]
      simp
  rw [List.foldl_cons, key l (ByteArray.empty ++ Utf8.encode x)]
  simp
theorem encode_low {x : Int} (h0 : 0 ≤ x) (h1 : x < 2048) : (Utf8.encode x).data.toList = if x.toNat < 128 then [UInt8.ofNat x.toNat] else [UInt8.ofNat (192 + x.toNat / 64), UInt8.ofNat (128 + x.toNat % 64)] := by
  have hv : Utf8.valid x = true := by unfold Utf8.valid; simp; omega
  unfold Utf8.encode
  simp only [hv, if_true]
  by_cases h : x.toNat < 128
  · rw [if_pos h, if_pos h]
  · rw [if_neg h, if_neg h, if_pos (by omega)]
theorem u8_inj {a b : Nat} (ha : a < 256) (hb : b < 256) (h : UInt8.ofNat a = UInt8.ofNat b) : a = b := by
  have := congrArg UInt8.toNat h
  simp at this
  omega
theorem encode_inj {x y : Int} {l m : List UInt8} (hx0 : 0 ≤ x) (hx1 : x < 2048) (hy0 : 0 ≤ y) (hy1 : y < 2048) (h : (Utf8.encode x).data.toList ++ l = (Utf8.encode y).data.toList ++ m) : x = y ∧ l = m := by
  rw [encode_low hx0 hx1, encode_low hy0 hy1] at h
  by_cases hx : x.toNat < 128
  · rw [if_pos hx] at h
    by_cases hy : y.toNat < 128
    · rw [if_pos hy] at h
      simp only [List.cons_append, List.nil_append, List.cons.injEq] at h
      have := u8_inj (by omega) (by omega) h.1
      exact ⟨by omega, h.2⟩
    · rw [if_neg hy] at h
      simp only [List.cons_append, List.nil_append, List.cons.injEq] at h
      have := u8_inj (by omega) (by omega) h.1
      omega
  · rw [if_neg hx] at h
    by_cases hy : y.toNat < 128
    · rw [if_pos hy] at h
      simp only [List.cons_append, List.nil_append, List.cons.injEq] at h
      have := u8_inj (by omega) (by omega) h.1
      omega
    · rw [if_neg hy] at h
      simp only [List.cons_append, List.nil_append, List.cons.injEq] at h
      have h1 := u8_inj (by omega) (by omega) h.1
      have h2 := u8_inj (by omega) (by omega) h.2.1
      exact ⟨by omega, h.2.2⟩
theorem encode_ne {x : Int} {l : List UInt8} (hx0 : 0 ≤ x) (hx1 : x < 2048) : (Utf8.encode x).data.toList ++ l ≠ [] := by
  rw [encode_low hx0 hx1]
  split <;> simp
theorem runesL_inj : ∀ {a b : List Int}, (∀ x ∈ a, 0 ≤ x ∧ x < 2048) → (∀ x ∈ b, 0 ≤ x ∧ x < 2048) → runesL a = runesL b → a = b
  | [], [], _, _, _ => rfl
  | [], y :: b, _, hb, h => by
    rw [runesL_cons] at h
    exact absurd h.symm (encode_ne (hb y (by simp)).1 (hb y (by simp)).2)
  | x :: a, [], ha, _, h => by
    rw [runesL_cons] at h
    exact absurd h (encode_ne (ha x (by simp)).1 (ha x (by simp)).2)
  | x :: a, y :: b, ha, hb, h => by
    rw [runesL_cons, runesL_cons] at h
    have hx := ha x (by simp); have hy := hb y (by simp)
    obtain ⟨h1, h2⟩ := encode_inj hx.1 hx.2 hy.1 hy.2 h
    rw [h1, runesL_inj (fun z hz => ha z (by simp [hz])) (fun z hz => hb z (by simp [hz])) h2]
theorem keyL_inj {a b : List Int} (ha : ∀ x ∈ a, 0 ≤ x ∧ x < 2000) (hb : ∀ x ∈ b, 0 ≤ x ∧ x < 2000) (h : keyL a = keyL b) : a = b := by
  unfold keyL at h
  have := runesL_inj (a := a.map (· + 1)) (b := b.map (· + 1)) (fun x hx => by obtain ⟨y, hy, rfl⟩ := List.mem_map.1 hx; have := ha y hy; omega)
    (fun x hx => by obtain ⟨y, hy, rfl⟩ := List.mem_map.1 hx; have := hb y hy; omega) h
  have key : ∀ (a b : List Int), a.map (· + 1) = b.map (· + 1) → a = b := by
    intro a
    induction a with
    | nil => intro b h; cases b with | nil => rfl | cons => cases h
    | cons x a ih => intro b h; cases b with
      | nil => cases h
      | cons y b =>
        simp only [List.map_cons, List.cons.injEq] at h
        rw [ih b h.2, show x = y by omega]
  exact key a b this
/-! ### theory: count -/
def T_ (B : Nat) (n : Int) (cells : List Cel) (ps : List Pos) (set : List Int) : Int := tot n (Acc cells ps set) B
def KOK (B : Nat) (n : Int) (cells : List Cel) (ps : List Pos) (kn : Kn) : Prop := ∀ k v, lookA k kn = some v → ∃ set, SO cells ps set ∧ keyL set = k ∧ v = min (T_ B n cells ps set) CMAX + 1
structure Env (cells : List Cel) (ps : List Pos) : Prop where
  t : PosT cells ps
  mx : ∀ c ∈ cells, 0 ≤ c.mx
  cl : cells.length ≤ 40
  pl : ps.length ≤ 401
  sum : (cells.map (·.mx)).sum ≤ 400
theorem Env.len {cells : List Cel} {ps : List Pos} (e : Env cells ps) {set w : List Int} (h : ∀ x ∈ set, IR ps x) (ha : Acc cells ps set w = true) : w.length ≤ 400 := by
  obtain ⟨x, hx, ha⟩ := Acc_iff.1 ha
  have hp := e.t.pv (h x hx)
  have h1 := accP_mu e.mx hp ha
  have h2 := mu_le (cells := cells) (p := at_ ps x) e.mx (by rcases hp with h | ⟨_, _, _, h, _⟩; rw [h]; simp; exact h)
  have := e.sum
  omega
theorem Acc_nil {cells : List Cel} {ps : List Pos} (w : List Int) : Acc cells ps [] w = false := rfl
theorem SO.lt {cells : List Cel} {ps : List Pos} (e : Env cells ps) {set : List Int} (h : SO cells ps set) : ∀ x ∈ set, 0 ≤ x ∧ x < 2000 := fun x hx => by
  have := h.ir x hx
  have := e.pl
  unfold IR at *; omega
theorem cntGo_spec {B : Nat} {n : Int} {cells : List Cel} {ps : List Pos} (e : Env cells ps) {f : Nat} {set : List Int} (hs : SO cells ps set) (hmu : ∀ x ∈ set, mu cells (at_ ps x) ≤ f)
    (ih : ∀ (set : List Int) (kn : Kn), SO cells ps set → (∀ x ∈ set, mu cells (at_ ps x) < f) → KOK B n cells ps kn → ∃ kn2, countM n 20000 cells ps f set kn = some (min (T_ B n cells ps set) CMAX, kn2) ∧ KOK B n cells ps kn2) :
    ∀ (ss : List Int) (a : Int) (kn : Kn), 0 ≤ a → a ≤ CMAX → KOK B n cells ps kn →
    ∃ kn2, cntGo (countM n 20000 cells ps f) 20000 cells ps set ss a kn = some (min (a + (ss.map fun s => tot n (fun w => Acc cells ps set (s :: w)) B).sum) CMAX, kn2) ∧ KOK B n cells ps kn2
  | [], a, kn, h0, h1, hk => ⟨kn, by rw [cntGo]; simp; omega, hk⟩
  | s :: ss, a, kn, h0, h1, hk => by
    have hcm : CMAX = 1099511627776 := rfl
    obtain ⟨nx, g1, g2, g3, g4⟩ := afterM_spec e.t e.cl e.pl hs s (F := 20000) (by omega)
    have hnn : 0 ≤ (ss.map fun s => tot n (fun w => Acc cells ps set (s :: w)) B).sum := by
      have key : ∀ l : List Int, 0 ≤ (l.map fun s => tot n (fun w => Acc cells ps set (s :: w)) B).sum := by
        intro l
        induction l with
        | nil => simp
        | cons x l ih => simp only [List.map_cons, List.sum_cons]; have := tot_nn n (fun w => Acc cells ps set (x :: w)) B; omega
      exact key ss
    have hT : tot n (fun w => Acc cells ps set (s :: w)) B = T_ B n cells ps nx := tot_congr (fun w => (g3 w).symm) B
    have hT0 : 0 ≤ T_ B n cells ps nx := tot_nn _ _ _
    rw [cntGo, g1, List.map_cons, List.sum_cons, hT]
    simp only
    by_cases hz : nx = []
    · rw [if_pos hz]
      have : T_ B n cells ps nx = 0 := by rw [hz]; exact tot_zero (fun w => Acc_nil w) B
      rw [this, Int.zero_add]
      exact cntGo_spec e hs hmu ih ss a kn h0 h1 hk
    · rw [if_neg hz]
      rcases g2 with g2 | g2
      · exact absurd g2 hz
      obtain ⟨kn2, h2, h3⟩ := ih nx kn g2 (fun x hx => by have := g4 f hmu x hx; omega) hk
      rw [h2]
      simp only
      rw [if_pos (by omega)]
      obtain ⟨kn3, h4, h5⟩ := cntGo_spec e hs hmu ih ss (min (a + min (T_ B n cells ps nx) CMAX) CMAX) kn2 (by omega) (by omega) h3
      refine ⟨kn3, ?_, h5⟩
      rw [h4]
      congr 2
      omega
theorem countM_spec {B : Nat} (hB : 450 ≤ B) {n : Int} {cells : List Cel} {ps : List Pos} (e : Env cells ps) : ∀ (f : Nat) (set : List Int) (kn : Kn), SO cells ps set → (∀ x ∈ set, mu cells (at_ ps x) < f) → KOK B n cells ps kn →
    ∃ kn2, countM n 20000 cells ps f set kn = some (min (T_ B n cells ps set) CMAX, kn2) ∧ KOK B n cells ps kn2
  | 0, set, kn, hs, hmu, hk => by
    obtain ⟨x, q, rfl⟩ := List.exists_cons_of_ne_nil hs.ne
    have h1 := hmu x (by simp)
    have hp := e.t.pv (hs.ir x (by simp))
    have : 0 ≤ mu cells (at_ ps x) := by
      rcases hp with h | ⟨c, c0, c1, c2, c3⟩
      · rw [h]; unfold mu; simp
      · unfold mu
        rw [drop_next c0 c1, List.map_cons, List.sum_cons]
        have := sum_nn (l := cells.drop ((at_ ps x).1 + 1).toNat) fun d hd => e.mx d (List.mem_of_mem_drop hd)
        omega
    omega
  | f + 1, set, kn, hs, hmu, hk => by
    have hcm : CMAX = 1099511627776 := rfl
    have hT0 : 0 ≤ T_ B n cells ps set := tot_nn _ _ _
    have hsl := hs.len
    have hpl := e.pl
    have hok : setOK 20000 set = true := by
      unfold setOK
      simp only [Bool.and_eq_true, decide_eq_true_eq, List.all_eq_true]
      exact ⟨⟨hs.ne, by omega⟩, fun x hx => by have := hs.lt e x hx; omega⟩
    rw [countM, if_neg (by rw [hok]; decide)]
    by_cases hv : 0 < (lookA (keyL set) kn).getD 0
    · rw [if_pos hv]
      cases hl : lookA (keyL set) kn with
      | none => rw [hl] at hv; simp at hv
      | some v =>
        obtain ⟨set2, h1, h2, h3⟩ := hk _ _ hl
        have : set2 = set := keyL_inj (h1.lt e) (hs.lt e) h2
        subst this
        simp only [Option.getD_some]
        rw [if_pos (by omega)]
        exact ⟨kn, by congr 2; omega, hk⟩
    · rw [if_neg hv]
      obtain ⟨kn2, h1, h2⟩ := cntGo_spec e hs (f := f) (fun x hx => by have := hmu x hx; omega) (fun set kn a b c => countM_spec hB e f set kn a b c) (upto n) (if (ps.length - 1 : Int) ∈ set then 1 else 0) kn (by split <;> omega) (by split <;> omega) hk
      have hT : T_ B n cells ps set = (if (ps.length - 1 : Int) ∈ set then 1 else 0) + ((upto n).map fun s => tot n (fun w => Acc cells ps set (s :: w)) B).sum := by
        obtain ⟨B0, rfl⟩ : ∃ B0, B = B0 + 1 := ⟨B - 1, by omega⟩
        unfold T_
        rw [tot_succ]
        congr 1
        · rw [hs.fin e.t]
          by_cases hm : (ps.length - 1 : Int) ∈ set
          · rw [if_pos hm, if_pos (by simpa using hm)]
          · rw [if_neg hm, if_neg (by simpa using hm)]
        · refine congrArg List.sum (List.map_congr_left fun s _ => ?_)
          have hlen : ∀ w, Acc cells ps set (s :: w) = true → w.length < B0 := fun w hw => by
            have := e.len hs.ir hw
            simp only [List.length_cons] at this; omega
          exact tot_eq hlen (fun w hw => by have := hlen w hw; omega)
      rw [h1, ← hT]
      refine ⟨_, rfl, fun k v hkv => ?_⟩
      rw [lookA_setA] at hkv
      split at hkv
      · rename_i hkk
        cases hkv
        exact ⟨set, hs, hkk.symm, rfl⟩
      · exact h2 k v hkv
/-- the environment of valid cells -/
theorem envOf {n : Int} {cells : List Cel} (h : right n cells = true) : Env cells (posOf cells 0) ∧ (cells.map (·.mx)).sum ≤ 60 := by
  obtain ⟨h1, h2, h3⟩ := right_iff.1 h
  have hm : ∀ c ∈ cells, 0 ≤ c.mx := fun c hc => by have := (h2 c hc).mn; have := (h2 c hc).mx; omega
  have hl := posOf_length cells 0 fun c hc => ⟨hm c hc, (h2 c hc).gap⟩
  exact ⟨⟨posT cells hm, hm, h1, by omega, by omega⟩, h3⟩
end Go.Abs.Wall
set_option maxRecDepth 100000
set_option linter.unusedVariables false
namespace Go.Abs.Wall
open Go Go.Abs Go.Proofs
/-! ### theory: rows -/
def extT (s : Int) : List Int → List Int → Int → List Int
  | p :: ps, a :: b :: r, o => min (min (a + differ s p) (b + 1)) (o + 1) :: extT s ps (b :: r) (min (min (a + differ s p) (b + 1)) (o + 1))
  | _, _, _ => []
def extR (par row : List Int) (s : Int) : List Int := (row.getD 0 0 + 1) :: extT s par row (row.getD 0 0 + 1)
structure RowG (par : List Int) (B : Int) (row : List Int) : Prop where
  len : row.length = par.length + 1
  bd : ∀ v ∈ row, 0 ≤ v ∧ v ≤ B
theorem extGo_spec (s : Int) {B : Int} (hB : 0 ≤ B ∧ B ≤ 1000000) : ∀ (par row : List Int) (o : Int), row.length = par.length + 1 → (∀ v ∈ row, 0 ≤ v ∧ v ≤ B) → 0 ≤ o → o ≤ B + 1 →
    extGo s par row o = some (extT s par row o) ∧ (extT s par row o).length = par.length ∧ ∀ v ∈ extT s par row o, 0 ≤ v ∧ v ≤ B + 1
  | [], row, o, hl, hb, h0, h1 => by cases row with | nil => simp at hl | cons a row => exact ⟨rfl, rfl, by simp [extT]⟩
  | p :: ps, [], o, hl, _, _, _ => by simp at hl
  | p :: ps, [a], o, hl, _, _, _ => by simp at hl
  | p :: ps, a :: b :: r, o, hl, hb, h0, h1 => by
    have ha := hb a (by simp)
    have hbb := hb b (by simp)
    have hd := differ01 s p
    obtain ⟨g1, g2, g3⟩ := extGo_spec s hB ps (b :: r) (min (min (a + differ s p) (b + 1)) (o + 1)) (by simpa using hl) (fun v hv => hb v (by simp at hv ⊢; exact .inr hv)) (by omega) (by omega)
    have hcm : CMAX = 1099511627776 := rfl
    rw [extGo, extT, if_pos ⟨by omega, by omega, by omega, by omega, by omega, by omega⟩, g1]
    refine ⟨rfl, by rw [List.length_cons, g2]; rfl, fun v hv => ?_⟩
    rcases List.mem_cons.1 hv with rfl | hv
    · omega
    · exact g3 v hv
theorem extM_spec {par row : List Int} {B : Int} (s : Int) (hB : 0 ≤ B ∧ B ≤ 1000000) (h : RowG par B row) : extM par row s = some (extR par row s) ∧ RowG par (B + 1) (extR par row s) := by
  have hcm : CMAX = 1099511627776 := rfl
  obtain ⟨hl, hb⟩ := h
  cases row with
  | nil => simp at hl
  | cons a row =>
    have ha := hb a (by simp)
    obtain ⟨g1, g2, g3⟩ := extGo_spec s hB par (a :: row) (a + 1) hl hb (by omega) (by omega)
    unfold extM extR
    simp only [List.getD_cons_zero]
    rw [if_pos (by omega), g1]
    refine ⟨rfl, by simp [g2], fun v hv => ?_⟩
    rcases List.mem_cons.1 hv with rfl | hv
    · omega
    · exact g3 v hv
theorem extT_get (s : Int) : ∀ (par row : List Int) (o : Int) (k : Nat), row.length = par.length + 1 → k < par.length →
    (extT s par row o).getD k 0 = min (min (row.getD k 0 + differ s (par.getD k 0)) (row.getD (k + 1) 0 + 1)) ((o :: extT s par row o).getD k 0 + 1)
  | [], row, o, k, _, hk => by simp at hk
  | p :: ps, [], o, k, hl, _ => by simp at hl
  | p :: ps, [a], o, k, hl, _ => by simp at hl
  | p :: ps, a :: b :: r, o, 0, hl, _ => by rw [extT]; rfl
  | p :: ps, a :: b :: r, o, k + 1, hl, hk => by
    have ih := extT_get s ps (b :: r) (min (min (a + differ s p) (b + 1)) (o + 1)) k (by simpa using hl) (by simpa using hk)
    rw [extT]
    simp only [List.getD_cons_succ] at ih ⊢
    rw [ih]
theorem extR_zero (par row : List Int) (s : Int) : (extR par row s).getD 0 0 = row.getD 0 0 + 1 := rfl
theorem extR_succ {par row : List Int} (s : Int) {k : Nat} (hl : row.length = par.length + 1) (hk : k < par.length) :
    (extR par row s).getD (k + 1) 0 = min (min (row.getD k 0 + differ s (par.getD k 0)) (row.getD (k + 1) 0 + 1)) ((extR par row s).getD k 0 + 1) := by
  unfold extR
  rw [List.getD_cons_succ, extT_get s par row _ k hl hk]
theorem extR_len {par row : List Int} (s : Int) (hl : row.length = par.length + 1) : (extR par row s).length = par.length + 1 := by
  have key : ∀ (par row : List Int) (o : Int), row.length = par.length + 1 → (extT s par row o).length = par.length := by
    intro par
    induction par with
    | nil => intro row o h; rfl
    | cons p ps ih =>
      intro row o h
      match row, h with
      | a :: b :: r, h => rw [extT, List.length_cons, ih (b :: r) _ (by simpa using h)]; rfl
      | [a], h => simp at h
  unfold extR
  rw [List.length_cons, key par row _ hl]
def finR (par : List Int) : List Int → List Int → List Int
  | row, [] => row
  | row, s :: w => finR par (extR par row s) w
def lastR (par row : List Int) : Int := row.getD par.length 0
theorem dist_drop_cons {par : List Int} {k : Nat} (s : Int) (w : List Int) (hk : k < par.length) : dist (s :: w) (par.drop k) = min (differ s (par.getD k 0) + dist w (par.drop (k + 1))) (min (1 + dist w (par.drop k)) (1 + dist (s :: w) (par.drop (k + 1)))) := by
  have h1 : par[k]? = some (par.getD k 0) := by rw [getD_lt hk, List.getElem?_eq_getElem hk]
  rw [drop_cons h1, dist_cc]
theorem finR_ge (par : List Int) : ∀ (w row : List Int), row.length = par.length + 1 → ∃ k, k ≤ par.length ∧ row.getD k 0 + dist w (par.drop k) ≤ lastR par (finR par row w)
  | [], row, hl => ⟨par.length, Nat.le_refl _, by unfold lastR finR; rw [List.drop_length, dist_nl]; simp⟩
  | s :: w, row, hl => by
    obtain ⟨k, hk, h⟩ := finR_ge par w (extR par row s) (extR_len s hl)
    have key : ∀ k, k ≤ par.length → ∃ k', k' ≤ k ∧ row.getD k' 0 + dist (s :: w) (par.drop k') ≤ (extR par row s).getD k 0 + dist w (par.drop k) := by
      intro k
      induction k with
      | zero =>
        intro _
        refine ⟨0, Nat.le_refl _, ?_⟩
        rw [extR_zero]
        by_cases hp : 0 < par.length
        · rw [dist_drop_cons s w hp]; omega
        · rw [drop_nil (l := par) (by omega), dist_nil, dist_nil, List.length_cons]; omega
      | succ k ih =>
        intro hk
        obtain ⟨k', h1, h2⟩ := ih (by omega)
        have e := extR_succ (par := par) (row := row) s hl (show k < par.length by omega)
        have hd := dist_drop_cons s w (show k < par.length by omega)
        have hstep : dist w (par.drop k) ≤ 1 + dist w (par.drop (k + 1)) := by
          have h1 : par[k]? = some (par.getD k 0) := by rw [getD_lt (by omega), List.getElem?_eq_getElem (by omega)]
          rw [drop_cons h1]; exact dist_drop1 _ _ _
        by_cases c1 : (extR par row s).getD (k + 1) 0 = row.getD k 0 + differ s (par.getD k 0)
        · exact ⟨k, by omega, by omega⟩
        · by_cases c2 : (extR par row s).getD (k + 1) 0 = row.getD (k + 1) 0 + 1
          · refine ⟨k + 1, Nat.le_refl _, ?_⟩
            have : dist (s :: w) (par.drop (k + 1)) ≤ 1 + dist w (par.drop (k + 1)) := by
              by_cases hp : k + 1 < par.length
              · rw [dist_drop_cons s w hp]; omega
              · rw [drop_nil (l := par) (by omega), dist_nil, dist_nil, List.length_cons]; omega
            omega
          · exact ⟨k', by omega, by omega⟩
    obtain ⟨k', h1, h2⟩ := key k hk
    exact ⟨k', by omega, by show _ ≤ lastR par (finR par (extR par row s) w); omega⟩
def Lip (par row : List Int) : Prop := ∀ k, k < par.length → row.getD (k + 1) 0 ≤ row.getD k 0 + 1
theorem extR_lip {par row : List Int} (s : Int) (hl : row.length = par.length + 1) : Lip par (extR par row s) := by
  intro k hk
  rw [extR_succ s hl hk]; omega
theorem finR_le (par : List Int) : ∀ (w row : List Int), row.length = par.length + 1 → Lip par row → ∀ d k, d + k = par.length → lastR par (finR par row w) ≤ row.getD k 0 + dist w (par.drop k)
  | [], row, hl, hp, 0, k, hk => by
    have : k = par.length := by omega
    subst this
    unfold lastR finR
    rw [List.drop_length, dist_nl]; simp
  | [], row, hl, hp, d + 1, k, hk => by
    have ih := finR_le par [] row hl hp d (k + 1) (by omega)
    have h1 := hp k (by omega)
    rw [dist_nl, List.length_drop] at ih ⊢
    omega
  | s :: w, row, hl, hp, 0, k, hk => by
    have hkk : k = par.length := by omega
    subst hkk
    have ih := finR_le par w (extR par row s) (extR_len s hl) (extR_lip s hl) 0 par.length (by omega)
    show lastR par (finR par (extR par row s) w) ≤ _
    rw [List.drop_length, dist_nil] at ih ⊢
    rw [List.length_cons]
    have : (extR par row s).getD par.length 0 ≤ row.getD par.length 0 + 1 := by
      cases hm : par.length with
      | zero => rw [extR_zero]; omega
      | succ m =>
        have := extR_succ (par := par) (row := row) s hl (show m < par.length by omega)
        rw [this]; omega
    omega
  | s :: w, row, hl, hp, d + 1, k, hk => by
    have hkl : k < par.length := by omega
    have i1 := finR_le par (s :: w) row hl hp d (k + 1) (by omega)
    have i2 := finR_le par w (extR par row s) (extR_len s hl) (extR_lip s hl) (d + 1) k (by omega)
    have i3 := finR_le par w (extR par row s) (extR_len s hl) (extR_lip s hl) d (k + 1) (by omega)
    have e1 := extR_succ (par := par) (row := row) s hl hkl
    have e0 : (extR par row s).getD k 0 ≤ row.getD k 0 + 1 := by
      cases k with
      | zero => rw [extR_zero]; omega
      | succ k => have := extR_succ (par := par) (row := row) s hl (show k < par.length by omega); rw [this]; omega
    have h1 := hp k hkl
    rw [dist_drop_cons s w hkl]
    change lastR par (finR par (extR par row s) w) ≤ _ at i1
    show lastR par (finR par (extR par row s) w) ≤ _
    omega
termination_by w _ _ _ d => (w.length, d)
/-- the row at the beginning -/
theorem row0_get {m k : Nat} (h : k ≤ m) : (upto ((m : Int) + 1)).getD k 0 = k := by
  have := upto_get (n := (m : Int) + 1) (i := k) (by omega)
  simp [List.getD, this]
theorem dist_dropk (w par : List Int) : ∀ k, k ≤ par.length → dist w par ≤ k + dist w (par.drop k)
  | 0, _ => by simp
  | k + 1, h => by
    have ih := dist_dropk w par k (by omega)
    have h1 : par[k]? = some (par.getD k 0) := by rw [getD_lt (by omega), List.getElem?_eq_getElem (by omega)]
    have h2 := dist_drop1 w (par.getD k 0) (par.drop (k + 1))
    rw [← drop_cons h1] at h2
    omega
theorem finR_dist (par w : List Int) : lastR par (finR par (upto ((par.length : Int) + 1)) w) = dist w par := by
  have hl : (upto ((par.length : Int) + 1)).length = par.length + 1 := by rw [upto_len]; omega
  have h1 := finR_le par w _ hl (fun k hk => by rw [row0_get (by omega), row0_get (by omega)]; omega) par.length 0 (by omega)
  obtain ⟨k, hk, h2⟩ := finR_ge par w _ hl
  have h3 := dist_dropk w par k hk
  rw [row0_get hk] at h2
  rw [row0_get (by omega), List.drop_zero] at h1
  omega
end Go.Abs.Wall
set_option maxRecDepth 100000
set_option linter.unusedVariables false
namespace Go.Abs.Wall
open Go Go.Abs Go.Proofs
/-! ### theory: the tables of the fewest changes -/
def tabR (cells : List Cel) (ps : List Pos) (par : List Int) (r : Nat) : List (List Int) := tabL cells ps par ((restL cells ps par r).getD (r - 1) []) r ps.length
theorem restL_get (cells : List Cel) (ps : List Pos) (par : List Int) : ∀ {R r : Nat}, r < R → (restL cells ps par R)[r]? = some (tabR cells ps par r)
  | 0, r, h => by omega
  | R + 1, r, h => by
    rw [restL]
    by_cases hr : r < R
    · rw [List.getElem?_append_left (by rw [restL_length]; exact hr), restL_get cells ps par hr]
    · have : r = R := by omega
      subst this
      rw [List.getElem?_append_right (by rw [restL_length]; exact Nat.le_refl _), restL_length, Nat.sub_self]
      rfl
theorem rowL_drop (lv : (Nat → Int) → Nat → Int) (m : Nat) : ∀ {d d' : Nat}, d ≤ d' → rowL lv m d = (rowL lv m d').drop (d' - d)
  | d, 0, h => by have : d = 0 := by omega
                  subst this; rfl
  | d, d' + 1, h => by
    by_cases e : d = d' + 1
    · subst e; simp
    · rw [rowL_drop lv m (d := d) (d' := d') (by omega), rowL, show d' + 1 - d = (d' - d) + 1 from by omega, List.drop_succ_cons]
theorem rowL_at {lv : (Nat → Int) → Nat → Int} {m : Nat} (hlv : ∀ f g j, f (j + 1) = g (j + 1) → lv f j = lv g j) {j : Nat} (hj : j ≤ m) : (rowL lv m (m + 1)).getD j 0 = lv (fun k => (rowL lv m (m + 1)).getD k 0) j := by
  have h1 := rowL_drop lv m (d := m - j + 1) (d' := m + 1) (by omega)
  have h2 : (rowL lv m (m - j + 1)).getD 0 0 = (rowL lv m (m + 1)).getD j 0 := by
    rw [h1, show m + 1 - (m - j + 1) = j from by omega]
    simp [List.getD]
  rw [← h2, rowL, List.getD_cons_zero, show m - (m - j) = j from by omega]
  refine hlv _ _ j ?_
  have h3 := rowL_drop lv m (d := m - j) (d' := m + 1) (by omega)
  rw [h3, show m + 1 - (m - j) = j + 1 from by omega, show j + 1 + (m - j) - (m + 1) = 0 from by omega]
  simp [List.getD]
theorem tabL_drop (cells : List Cel) (ps : List Pos) (par : List Int) (prev : List (List Int)) (r : Int) : ∀ {d d' : Nat}, d ≤ d' → tabL cells ps par prev r d = (tabL cells ps par prev r d').drop (d' - d)
  | d, 0, h => by have : d = 0 := by omega
                  subst this; rfl
  | d, d' + 1, h => by
    by_cases e : d = d' + 1
    · subst e; simp
    · rw [tabL_drop cells ps par prev r (d := d) (d' := d') (by omega), tabL, show d' + 1 - d = (d' - d) + 1 from by omega, List.drop_succ_cons]
theorem leastV_cur {cells : List Cel} {par : List Int} {prev : List (List Int)} {later : Nat → List Int} {f g : Nat → Int} {y : Nat} {p : Pos} {x j : Nat} {r : Int} (h : f (j + 1) = g (j + 1)) : leastV cells par prev later f y p x j r = leastV cells par prev later g y p x j r := by
  unfold leastV; rw [h]
theorem leastV_later {cells : List Cel} {par : List Int} {prev : List (List Int)} {l1 l2 : Nat → List Int} {f : Nat → Int} {y : Nat} {p : Pos} {x j : Nat} {r : Int} (h : l1 y = l2 y) : leastV cells par prev l1 f y p x j r = leastV cells par prev l2 f y p x j r := by
  unfold leastV; rw [h]
def yOf (ps : List Pos) (x : Nat) : Nat := ((lookA ((ps.getD x (0, 0)).1 + 1, 0) (idxOf ps)).getD 0).toNat
/-- an entry of the table, by the entries before it -/
theorem tab_eq {cells : List Cel} {ps : List Pos} {par : List Int} {r x j : Nat} (hx : x < ps.length) (hy : (ps.getD x (0, 0)).1 = cells.length ∨ x < yOf ps x) (hj : j ≤ par.length) :
    ((tabR cells ps par r).getD x []).getD j 0 = leastV cells par ((restL cells ps par r).getD (r - 1) []) (fun z => (tabR cells ps par r).getD z []) (fun k => ((tabR cells ps par r).getD x []).getD k 0) (yOf ps x) (ps.getD x (0, 0)) x j r := by
  obtain ⟨prev, hprev⟩ : ∃ prev, prev = (restL cells ps par r).getD (r - 1) [] := ⟨_, rfl⟩
  have hT : tabR cells ps par r = tabL cells ps par prev r ps.length := by unfold tabR; rw [hprev]
  have hrow : (tabR cells ps par r).getD x [] = rowL (lvX cells ps par prev r (fun z => (tabL cells ps par prev r (ps.length - 1 - x)).getD (z + (ps.length - 1 - x) - ps.length) []) x) par.length (par.length + 1) := by
    have h1 := tabL_drop cells ps par prev r (d := ps.length - 1 - x + 1) (d' := ps.length) (by omega)
    have h2 : (tabL cells ps par prev r (ps.length - 1 - x + 1)).getD 0 [] = (tabR cells ps par r).getD x [] := by
      rw [h1, hT, show ps.length - (ps.length - 1 - x + 1) = x from by omega]
      simp [List.getD]
    rw [← h2, tabL, List.getD_cons_zero, show ps.length - 1 - (ps.length - 1 - x) = x from by omega]
  rw [hrow, rowL_at (lv := lvX cells ps par prev r (fun z => (tabL cells ps par prev r (ps.length - 1 - x)).getD (z + (ps.length - 1 - x) - ps.length) []) x) (fun f g j h => by unfold lvX; exact leastV_cur h) hj]
  have hlat : ∀ z, x < z → (tabL cells ps par prev r (ps.length - 1 - x)).getD (z + (ps.length - 1 - x) - ps.length) [] = (tabR cells ps par r).getD z [] := by
    intro z hz
    have h3 := tabL_drop cells ps par prev r (d := ps.length - 1 - x) (d' := ps.length) (by omega)
    rw [h3, hT, show ps.length - (ps.length - 1 - x) = x + 1 from by omega]
    unfold List.getD
    rw [List.getElem?_drop, show x + 1 + (z + (ps.length - 1 - x) - ps.length) = z from by omega]
  unfold lvX
  rw [← hprev]
  rcases hy with hy | hy
  · unfold leastV
    rw [if_pos hy, if_pos hy]
  · refine leastV_later (hlat _ hy)
/-! ### theory: nothing costs less than the tables say -/
theorem acc_pos {cells : List Cel} {ps : List Pos} (hT : PosT cells ps) {x : Nat} (hx : x < ps.length) : IR ps (x : Int) ∧ at_ ps (x : Int) = ps.getD x (0, 0) := ⟨⟨by omega, by omega⟩, rfl⟩
theorem tab_le {cells : List Cel} {ps : List Pos} (hT : PosT cells ps) (par : List Int) (hpl : par.length ≤ 60) : ∀ (r d e x j : Nat) (w : List Int), w.length = r → x + d + 1 = ps.length → j + e = par.length → accP cells (ps.getD x (0, 0)) w = true →
    ((tabR cells ps par r).getD x []).getD j 0 ≤ dist w (par.drop j)
  | r, d, e, x, j, w, hw, hx, hj, ha => by
    obtain ⟨hir, hat⟩ := acc_pos hT (show x < ps.length by omega)
    have hpv := hT.pv hir
    rw [hat] at hpv
    obtain ⟨p, hp⟩ : ∃ p, p = ps.getD x (0, 0) := ⟨_, rfl⟩
    rw [← hp] at ha hpv
    rcases hpv with hend | ⟨c, c0, c1, c2, c3⟩
    · rw [tab_eq (by omega) (.inl (by rw [← hp, hend])) (by omega), ← hp]
      unfold leastV
      rw [if_pos (by rw [hend])]
      rw [hend, accP_end] at ha
      simp at ha
      subst ha
      simp at hw
      subst hw
      rw [dist_nl, List.length_drop]
      simp; omega
    · have hclt := (List.getElem?_eq_some_iff.1 c1).1
      have hnx := hT.next hir (by rw [hat, ← hp]; exact c0) (by rw [hat, ← hp]; exact c1)
      rw [hat, ← hp] at hnx
      have hyx : nextIx ps p.1 = (yOf ps x : Int) := by
        unfold yOf nextIx at *
        rw [← hp]
        have := hnx.1.1
        omega
      have hxy : x < yOf ps x ∧ yOf ps x < ps.length := by
        rcases hT.each x _ (at_get hir) with ⟨e, _⟩ | ⟨jj, cc, _, h2, _, _, ⟨y, h5, h6⟩, _⟩
        · rw [hat, ← hp] at e; rw [e] at hclt; simp at hclt
        · rw [hat, ← hp] at h6
          have := idxOf_look hT.nodup h6
          have e2 : yOf ps x = y := by unfold yOf; rw [← hp, this]; simp
          exact ⟨by omega, by rw [e2]; exact (List.getElem?_eq_some_iff.1 h6).1⟩
      have hay : ps.getD (yOf ps x) (0, 0) = (p.1 + 1, 0) := by
        have := hnx.2
        rw [hyx] at this
        exact this
      have e0 := tab_eq (cells := cells) (par := par) (r := r) (x := x) (j := j) (ps := ps) (by omega) (.inr hxy.1) (by omega)
      rw [← hp] at e0
      unfold leastV at e0
      rw [if_neg (by omega), getD_of c1] at e0
      simp only at e0
      -- going on to the next cell
      by_cases heps : c.mn ≤ p.2 ∧ accP cells (p.1 + 1, 0) w = true
      · have ih := tab_le hT par hpl r (ps.length - 1 - yOf ps x) e (yOf ps x) j w hw (by omega) hj (by rw [hay]; exact heps.2)
        rw [if_pos heps.1] at e0
        omega
      · -- a sign here
        cases w with
        | nil =>
          rw [accP_nil c0 c1, Bool.and_eq_true, decide_eq_true_eq] at ha
          exact absurd ha heps
        | cons s w =>
          rw [accP_cons c0 c1, Bool.or_eq_true] at ha
          simp only [Bool.and_eq_true, decide_eq_true_eq] at ha
          rcases ha with ha | ⟨⟨hlt, hal⟩, hacc⟩
          · exact absurd ha heps
          · have hr1 : r = (r - 1) + 1 := by simp at hw; omega
            have hsx := hT.succ hir (by rw [hat, ← hp]; exact c0) (by rw [hat, ← hp]; exact c1) (by rw [hat, ← hp]; exact hlt)
            rw [hat, ← hp] at hsx
            have hax : ps.getD (x + 1) (0, 0) = (p.1, p.2 + 1) := by
              have := hsx.2.1
              unfold at_ at this
              rw [show ((x : Int) + 1).toNat = x + 1 from by omega] at this
              exact this
            have hx1 : x + 1 < ps.length := by have := hsx.1.2; omega
            have hprev : (restL cells ps par r).getD (r - 1) [] = tabR cells ps par (r - 1) := by
              unfold List.getD
              rw [restL_get cells ps par (show r - 1 < r by omega)]; rfl
            rw [hprev, if_pos (show p.2 < c.mx ∧ (0 : Int) < (r : Int) from ⟨hlt, by omega⟩)] at e0
            have hwl : w.length = r - 1 := by simp at hw; omega
            have i1 := tab_le hT par hpl (r - 1) (ps.length - 1 - (x + 1)) e (x + 1) j w hwl (by omega) hj (by rw [hax]; exact hacc)
            by_cases he : e = 0
            · have hjm : j = par.length := by omega
              subst hjm
              rw [if_neg (by omega)] at e0
              rw [List.drop_length, dist_nil] at i1 ⊢
              rw [List.length_cons]
              omega
            · rw [if_pos (show (j : Int) < par.length by omega), if_pos (show (j : Int) < par.length by omega)] at e0
              have i2 := tab_le hT par hpl (r - 1) (ps.length - 1 - (x + 1)) (e - 1) (x + 1) (j + 1) w hwl (by omega) (by omega) (by rw [hax]; exact hacc)
              have i3 := tab_le hT par hpl r d (e - 1) x (j + 1) (s :: w) hw hx (by omega) (by
                rw [← hp, accP_cons c0 c1]
                simp [hlt, hal, hacc])
              rw [dist_drop_cons s w (show j < par.length by omega)]
              have hcost : (if allows c (par.getD j 0) = true then (0 : Int) else 1) ≤ differ s (par.getD j 0) := by
                by_cases hs : s = par.getD j 0
                · rw [← hs, if_pos hal]; exact (differ01 _ _).1
                · have : differ s (par.getD j 0) = 1 := by unfold differ; rw [if_neg hs]
                  rw [this]; split <;> omega
              omega
termination_by r d e => (r, d, e)
end Go.Abs.Wall
set_option maxRecDepth 100000
set_option linter.unusedVariables false
namespace Go.Abs.Wall
open Go Go.Abs Go.Proofs
/-! ### theory: bounds -/
theorem bndJ_spec : ∀ (row tr : List Int) (b : Int), row.length = tr.length → (∀ v ∈ row, 0 ≤ v ∧ v ≤ 1000000) → (∀ v ∈ tr, 0 ≤ v ∧ v ≤ far) → ∃ v, bndJ row tr b = some v ∧ v ≤ b ∧ ∀ j, j < row.length → v ≤ row.getD j 0 + tr.getD j 0
  | [], tr, b, _, _, _ => ⟨b, rfl, Int.le_refl _, fun j hj => by simp at hj⟩
  | n :: row, [], b, h, _, _ => by simp at h
  | n :: row, t :: tr, b, h, h1, h2 => by
    have a1 := h1 n (by simp)
    have a2 := h2 t (by simp)
    have hfar : far = 1048576 := rfl
    have hcm : CMAX = 1099511627776 := rfl
    obtain ⟨v, g1, g2, g3⟩ := bndJ_spec row tr (min b (n + t)) (by simpa using h) (fun v hv => h1 v (by simp [hv])) (fun v hv => h2 v (by simp [hv]))
    rw [bndJ, if_pos (by omega)]
    refine ⟨v, g1, by omega, fun j hj => ?_⟩
    cases j with
    | zero => simp only [List.getD_cons_zero]; omega
    | succ j => simp only [List.getD_cons_succ]; exact g3 j (by simpa using hj)
theorem bndX_spec {tab : List (List Int)} {row : List Int} {m : Nat} (hrow : row.length = m + 1) (hb : ∀ v ∈ row, 0 ≤ v ∧ v ≤ 1000000) (ht : ∀ z ∈ tab, rowOK m z) : ∀ (set : List Int) (b : Int), (∀ x ∈ set, 0 ≤ x ∧ x < tab.length) →
    ∃ v, bndX tab row set b = some v ∧ v ≤ b ∧ ∀ x ∈ set, ∀ j, j ≤ m → v ≤ row.getD j 0 + (tab.getD x.toNat []).getD j 0
  | [], b, _ => ⟨b, rfl, Int.le_refl _, by simp⟩
  | x :: set, b, h => by
    have hx := h x (by simp)
    have hg : tab[x.toNat]? = some (tab.getD x.toNat []) := by rw [getD_lt (by omega), List.getElem?_eq_getElem (by omega)]
    have hr := ht (tab.getD x.toNat []) (List.mem_of_getElem? hg)
    obtain ⟨v, g1, g2, g3⟩ := bndJ_spec row (tab.getD x.toNat []) b (by rw [hrow, hr.1]) hb hr.2
    obtain ⟨u, k1, k2, k3⟩ := bndX_spec hrow hb ht set v fun y hy => h y (by simp [hy])
    rw [bndX, if_neg (by omega), hg]
    simp only
    rw [g1]
    simp only
    refine ⟨u, k1, by omega, fun y hy j hj => ?_⟩
    rcases List.mem_cons.1 hy with rfl | hy
    · have := g3 j (by omega); omega
    · exact k3 y hy j hj
theorem boundM_spec {cells : List Cel} {ps : List Pos} (e : Env cells ps) {par : List Int} (hpl : par.length ≤ 60) {R r : Nat} (hr : r < R) {set row : List Int} {B : Int} (hB : B ≤ 1000000) (hg : RowG par B row) (hs : ∀ x ∈ set, IR ps x) :
    ∃ bd, boundM (restL cells ps par R) set row r = some bd ∧ ∀ w, w.length = r → Acc cells ps set w = true → bd ≤ lastR par (finR par row w) := by
  have hP := e.t.ok (by have := e.pl; omega)
  have hget := restL_get cells ps par hr
  have hok := restL_OK hP hpl R (tabR cells ps par r) (List.mem_of_getElem? hget)
  obtain ⟨v, g1, g2, g3⟩ := bndX_spec hg.len (fun v hv => by have := hg.bd v hv; omega) hok.2 set far (fun x hx => by have := hs x hx; unfold IR at this; rw [hok.1]; exact this)
  unfold boundM
  rw [if_neg (by omega), Int.toNat_natCast, hget]
  refine ⟨v, g1, fun w hw ha => ?_⟩
  obtain ⟨x, hx, hax⟩ := Acc_iff.1 ha
  obtain ⟨k, hk, h1⟩ := finR_ge par w row hg.len
  have hix := hs x hx
  have h2 := tab_le e.t par hpl r (ps.length - 1 - x.toNat) (par.length - k) x.toNat k w hw (by unfold IR at hix; omega) (by omega) hax
  have h3 := g3 x hx k hk
  omega
/-! ### theory: walk -/
/-- the lines from a set on, with so many signs and changes, in order -/
def Lw (n : Int) (cells : List Cel) (ps : List Pos) (par set row : List Int) (ch : Int) (r : Nat) : List (List Int) :=
  (words n r).filter fun w => Acc cells ps set w && decide (lastR par (finR par row w) = ch)
theorem Lw_succ (n : Int) (cells : List Cel) (ps : List Pos) (par set row : List Int) (ch : Int) (r : Nat) : Lw n cells ps par set row ch (r + 1) = (upto n).flatMap fun s => ((words n r).filter fun w => Acc cells ps set (s :: w) && decide (lastR par (finR par (extR par row s) w) = ch)).map (s :: ·) := by
  unfold Lw
  rw [words]
  induction upto n with
  | nil => rfl
  | cons s l ih =>
    rw [List.flatMap_cons, List.filter_append, List.flatMap_cons, ← ih, List.filter_map]
    rfl
theorem take_app {α : Type} (a b : List α) (m : Nat) : (a ++ b).take m = if a.length < m then a ++ b.take (m - a.length) else a.take m := by
  split
  · rename_i h; rw [List.take_append, List.take_of_length_le (by omega)]
  · rename_i h; rw [List.take_append, show m - a.length = 0 from by omega]; simp
structure WkOut (cells : List Cel) (par line : List Int) (out : List Rst) (m : Nat) (L : List (List Int)) (res : Option (List Rst × Bool)) : Prop where
  eq : res = some (out ++ (L.take m).map (fun w => restored cells par (line ++ w)), decide (L.length < m))
theorem wkGo_spec {n : Int} {cells : List Cel} {ps : List Pos} {par : List Int} (e : Env cells ps) {set row line : List Int} {ch most : Int} {r : Nat} {B : Int} (hB : 0 ≤ B ∧ B ≤ 1000) (hs : SO cells ps set) (hg : RowG par B row)
    (rec : List Int → List Int → List Int → List Rst → Option (List Rst × Bool))
    (hrec : ∀ (nx row2 : List Int) (s : Int) (out : List Rst) (m : Nat), SO cells ps nx → RowG par (B + 1) row2 → (out.length : Int) + m = most → 1 ≤ m → WkOut cells par (line ++ [s]) out m (Lw n cells ps par nx row2 ch r) (rec nx row2 (line ++ [s]) out)) :
    ∀ (ss : List Int) (out : List Rst) (m : Nat), (out.length : Int) + m = most → 1 ≤ m →
    WkOut cells par line out m (ss.flatMap fun s => ((words n r).filter fun w => Acc cells ps set (s :: w) && decide (lastR par (finR par (extR par row s) w) = ch)).map (s :: ·)) (wkGo rec 20000 cells ps par set row line ss out)
  | [], out, m, _, hm => ⟨by rw [wkGo]; simp; omega⟩
  | s :: ss, out, m, ho, hm => by
    obtain ⟨nx, g1, g2, g3, g4⟩ := afterM_spec e.t e.cl e.pl hs s (F := 20000) (by omega)
    rw [List.flatMap_cons, wkGo, g1]
    simp only
    by_cases hz : nx = []
    · rw [if_pos hz]
      have : ((words n r).filter fun w => Acc cells ps set (s :: w) && decide (lastR par (finR par (extR par row s) w) = ch)) = [] := by
        rw [List.filter_eq_nil_iff]
        intro w _
        rw [← g3 w, hz, Acc_nil]; simp
      rw [this, List.map_nil, List.nil_append]
      exact wkGo_spec e hB hs hg rec hrec ss out m ho hm
    · rw [if_neg hz]
      obtain ⟨k1, k2⟩ := extM_spec s (by omega) hg
      rw [k1]
      simp only
      rcases g2 with g2 | g2
      · exact absurd g2 hz
      have hr := (hrec nx (extR par row s) s out m g2 k2 ho hm).eq
      have hL : Lw n cells ps par nx (extR par row s) ch r = ((words n r).filter fun w => Acc cells ps set (s :: w) && decide (lastR par (finR par (extR par row s) w) = ch)) := by
        unfold Lw
        refine List.filter_congr fun w _ => ?_
        rw [g3 w]
      rw [hL] at hr
      rw [hr]
      obtain ⟨A, hA⟩ : ∃ A, A = ((words n r).filter fun w => Acc cells ps set (s :: w) && decide (lastR par (finR par (extR par row s) w) = ch)) := ⟨_, rfl⟩
      rw [← hA]
      have hmap : (A.take m).map (fun w => restored cells par (line ++ [s] ++ w)) = ((A.map (s :: ·)).take m).map (fun w => restored cells par (line ++ w)) := by
        rw [← List.map_take, List.map_map]
        refine List.map_congr_left fun w _ => ?_
        simp
      rw [hmap]
      by_cases hlt : A.length < m
      · rw [decide_eq_true hlt]
        simp only
        have ih := (wkGo_spec e hB hs hg rec hrec ss (out ++ ((A.map (s :: ·)).take m).map (fun w => restored cells par (line ++ w))) (m - A.length) (by
          rw [List.length_append, List.length_map, List.take_of_length_le (by rw [List.length_map]; omega), List.length_map]; omega) (by omega)).eq
        refine ⟨?_⟩
        rw [ih, take_app, List.length_map, if_pos hlt, List.map_append, List.take_of_length_le (i := m) (by rw [List.length_map]; omega), List.append_assoc]
        congr 2
        rw [decide_eq_decide, List.length_append, List.length_map]; omega
      · rw [decide_eq_false hlt]
        simp only
        refine ⟨?_⟩
        rw [take_app, List.length_map, if_neg hlt]
        congr 2
        symm
        rw [decide_eq_false_iff_not, List.length_append, List.length_map]; omega
theorem walkM_spec {n : Int} {cells : List Cel} {ps : List Pos} {par : List Int} (e : Env cells ps) (hpl : par.length ≤ 60) {R : Nat} (hR : R ≤ 1000) {ch most : Int} (hmost : most ≤ 1000) : ∀ (f : Nat) (set row line : List Int) (r : Nat) (out : List Rst) (m : Nat), SO cells ps set → RowG par (60 + line.length) row →
    r < f → r < R → line.length + r ≤ 60 → (out.length : Int) + m = most → 1 ≤ m → WkOut cells par line out m (Lw n cells ps par set row ch r) (walkM n 20000 cells ps par (restL cells ps par R) most ch f set row line r out)
  | 0, set, row, line, r, out, m, _, _, h, _, _, _, _ => by omega
  | f + 1, set, row, line, r, out, m, hs, hg, hf, hr, hl, ho, hm => by
    have hsl := hs.len
    have hplen := e.pl
    have hok : setOK 20000 set = true := by
      unfold setOK
      simp only [Bool.and_eq_true, decide_eq_true_eq, List.all_eq_true]
      exact ⟨⟨hs.ne, by omega⟩, fun x hx => by have := hs.lt e x hx; omega⟩
    have hrl := hg.len
    have hne : row ≠ [] := by intro h; rw [h] at hrl; simp at hrl
    obtain ⟨bd, hb1, hb2⟩ := boundM_spec e hpl hr (B := 60 + line.length) (by omega) hg hs.ir
    rw [walkM, if_neg (by rw [hok]; simp; exact ⟨by omega, by omega, hne, by omega, by omega⟩), hb1]
    simp only
    by_cases hprune : ch < bd
    · rw [if_pos hprune]
      have : Lw n cells ps par set row ch r = [] := by
        unfold Lw
        rw [List.filter_eq_nil_iff]
        intro w hw hc
        simp only [Bool.and_eq_true, decide_eq_true_eq] at hc
        have := hb2 w (words_len w hw) hc.1
        omega
      refine ⟨?_⟩
      rw [this]
      simp; omega
    · rw [if_neg hprune]
      cases r with
      | zero =>
        rw [if_pos (show ((0 : Nat) : Int) = 0 from rfl)]
        have hfin := hs.fin e.t
        have hlast : row.getD (row.length - 1) 0 = lastR par row := by unfold lastR; rw [hrl]; rfl
        have hLw : Lw n cells ps par set row ch 0 = if (ps.length - 1 : Int) ∈ set ∧ lastR par row = ch then [[]] else [] := by
          unfold Lw words
          rw [List.filter_cons, List.filter_nil, hfin, finR]
          by_cases hc : (ps.length - 1 : Int) ∈ set ∧ lastR par row = ch
          · rw [if_pos hc, if_pos (by simp [hc.1, hc.2])]
          · rw [if_neg hc, if_neg (by simpa using hc)]
        refine ⟨?_⟩
        rw [hlast, hLw]
        by_cases hc : (ps.length - 1 : Int) ∈ set ∧ lastR par row = ch
        · rw [if_pos hc, if_pos hc]
          rw [List.take_of_length_le (by simp; omega)]
          simp
          omega
        · rw [if_neg hc, if_neg hc]
          simp; omega
      | succ r =>
        rw [if_neg (by omega), Lw_succ, show ((r + 1 : Nat) : Int) - 1 = (r : Int) from by omega]
        refine wkGo_spec e (B := 60 + line.length) (by omega) hs hg (fun set2 row2 line2 out2 => walkM n 20000 cells ps par (restL cells ps par R) most ch f set2 row2 line2 r out2) ?_ (upto n) out m ho hm
        intro nx row2 s out2 m2 h1 h2 h3 h4
        refine walkM_spec e hpl hR hmost f nx row2 (line ++ [s]) r out2 m2 h1 ?_ (by omega) (by omega) (by simp; omega) h3 h4
        have : (60 : Int) + ((line ++ [s]).length : Nat) = 60 + line.length + 1 := by simp; omega
        rw [this]; exact h2
end Go.Abs.Wall
set_option maxRecDepth 100000
set_option linter.unusedVariables false
namespace Go.Abs.Wall
open Go Go.Abs Go.Proofs
/-! ### theory: first -/
/-- the lines that agree, with so many changes and signs, in order -/
def linesR (n : Int) (cells : List Cel) (par : List Int) (c : Int) (r : Nat) : List (List Int) := (words n r).filter fun w => acc cells 0 w && decide (dist w par = c)
def linesC (n : Int) (cells : List Cel) (par : List Int) (K : Nat) (c : Int) : List (List Int) := (List.range K).flatMap (linesR n cells par c)
/-- all lines that agree, with fewer changes than C, in order -/
def linesU (n : Int) (cells : List Cel) (par : List Int) (K C : Nat) : List (List Int) := (List.range C).flatMap fun (c : Nat) => linesC n cells par K c
theorem linesU_succ (n : Int) (cells : List Cel) (par : List Int) (K C : Nat) : linesU n cells par K (C + 1) = linesU n cells par K C ++ linesC n cells par K C := by
  unfold linesU; rw [List.range_succ, List.flatMap_append]; simp
theorem chGo_spec {most : Int} {F : List Int → Rst} {L : Int → List (List Int)} {wk : Int → List Rst → Option (List Rst × Bool)} : ∀ (rs : List Int) (out : List Rst) (m : Nat), (out.length : Int) + m = most → 1 ≤ m →
    (∀ r ∈ rs, ∀ (out : List Rst) (m : Nat), (out.length : Int) + m = most → 1 ≤ m → wk r out = some (out ++ ((L r).take m).map F, decide ((L r).length < m))) →
    chGo wk most rs out = some (out ++ ((rs.flatMap L).take m).map F)
  | [], out, m, _, _, _ => by rw [chGo]; simp
  | r :: rs, out, m, ho, hm, h => by
    rw [chGo, h r (by simp) out m ho hm]
    simp only
    rw [List.flatMap_cons, take_app]
    by_cases hlt : (L r).length < m
    · rw [if_pos hlt, List.take_of_length_le (l := L r) (by omega)]
      have hlen : (out ++ (L r).map F).length = out.length + (L r).length := by simp
      rw [if_neg (by rw [hlen]; omega)]
      rw [chGo_spec (L := L) rs (out ++ (L r).map F) (m - (L r).length) (by rw [hlen]; omega) (by omega) (fun r' hr' => h r' (by simp [hr']))]
      rw [List.map_append, List.append_assoc]
    · rw [if_neg hlt]
      have hlen : (out ++ ((L r).take m).map F).length = out.length + m := by simp; omega
      rw [if_pos (by rw [hlen]; omega)]
/-- all lines of a length, by their changes -/
theorem count_split (ws : List (List Int)) (A : List Int → Bool) (d : List Int → Int) (hd : ∀ w, 0 ≤ d w) : ∀ C : Nat, ((ws.filter fun w => A w && decide (d w < C)).length : Int) = ((List.range C).map fun (c : Nat) => ((ws.filter fun w => A w && decide (d w = c)).length : Int)).sum
  | 0 => by
    have : (ws.filter fun w => A w && decide (d w < ((0 : Nat) : Int))) = [] := by
      rw [List.filter_eq_nil_iff]
      intro w _
      have := hd w
      simp; intro _; omega
    rw [this]; rfl
  | C + 1 => by
    rw [List.range_succ, List.map_append, List.sum_append, ← count_split ws A d hd C]
    simp only [List.map_cons, List.map_nil, List.sum_cons, List.sum_nil]
    have key : ∀ ws : List (List Int), (ws.filter fun w => A w && decide (d w < ((C + 1 : Nat) : Int))).length = (ws.filter fun w => A w && decide (d w < (C : Int))).length + (ws.filter fun w => A w && decide (d w = (C : Int))).length := by
      intro ws
      induction ws with
      | nil => rfl
      | cons w ws ih =>
        rw [List.filter_cons, List.filter_cons, List.filter_cons]
        cases hA : A w with
        | false => simp only [Bool.false_and, Bool.false_eq_true, if_false]; exact ih
        | true =>
          simp only [Bool.true_and, decide_eq_true_eq]
          by_cases h1 : d w < C
          · rw [if_pos (by omega), if_pos h1, if_neg (by omega), List.length_cons, List.length_cons]; omega
          · by_cases h2 : d w = C
            · rw [if_pos (by omega), if_neg h1, if_pos h2, List.length_cons, List.length_cons]; omega
            · rw [if_neg (by omega), if_neg h1, if_neg h2]; exact ih
    have := key ws
    omega
theorem tot_range (n : Int) (A : List Int → Bool) : ∀ R, tot n A R = ((List.range R).map fun (r : Nat) => (((words n r).filter A).length : Int)).sum
  | 0 => rfl
  | R + 1 => by rw [tot, tot_range n A R, List.range_succ, List.map_append, List.sum_append]; simp; omega
theorem len_flatMap {α β : Type} (l : List α) (f : α → List β) : ((l.flatMap f).length : Int) = (l.map fun a => ((f a).length : Int)).sum := by
  induction l with
  | nil => rfl
  | cons a l ih => rw [List.flatMap_cons, List.length_append, List.map_cons, List.sum_cons, ← ih]; omega
theorem sum_nat_add (l : List Nat) (f g : Nat → Int) : (l.map fun s => f s + g s).sum = (l.map f).sum + (l.map g).sum := by
  induction l with
  | nil => simp
  | cons x l ih => simp only [List.map_cons, List.sum_cons, ih]; omega
theorem linesU_len (n : Int) (cells : List Cel) (par : List Int) (K : Nat) : ∀ C : Nat, ((linesU n cells par K C).length : Int) = ((List.range K).map fun (r : Nat) => (((words n r).filter fun w => acc cells 0 w && decide (dist w par < C)).length : Int)).sum
  | 0 => by
    have : ((List.range K).map fun (r : Nat) => (((words n r).filter fun w => acc cells 0 w && decide (dist w par < ((0 : Nat) : Int))).length : Int)) = (List.range K).map fun _ => (0 : Int) := by
      refine List.map_congr_left fun r _ => ?_
      rw [count_split _ _ _ (fun w => (dist_bd w par).1) 0]; rfl
    rw [this]
    have key : ∀ l : List Nat, (l.map fun _ => (0 : Int)).sum = 0 := by
      intro l
      induction l with
      | nil => rfl
      | cons x l ih => simp only [List.map_cons, List.sum_cons, ih]; rfl
    rw [key]; rfl
  | C + 1 => by
    rw [linesU_succ, List.length_append]
    have ih := linesU_len n cells par K C
    have h1 : ((linesC n cells par K C).length : Int) = ((List.range K).map fun (r : Nat) => (((words n r).filter fun w => acc cells 0 w && decide (dist w par = (C : Int))).length : Int)).sum := len_flatMap _ _
    have h2 : ((List.range K).map fun (r : Nat) => (((words n r).filter fun w => acc cells 0 w && decide (dist w par < ((C + 1 : Nat) : Int))).length : Int)) = (List.range K).map fun (r : Nat) => (((words n r).filter fun w => acc cells 0 w && decide (dist w par < (C : Int))).length : Int) + (((words n r).filter fun w => acc cells 0 w && decide (dist w par = (C : Int))).length : Int) := by
      refine List.map_congr_left fun r _ => ?_
      rw [count_split _ _ _ (fun w => (dist_bd w par).1) (C + 1), List.range_succ, List.map_append, List.sum_append, ← count_split _ _ _ (fun w => (dist_bd w par).1) C]
      simp
    rw [h2, sum_nat_add]
    omega
theorem mem_linesU {n : Int} {cells : List Cel} {par : List Int} {K C : Nat} {w : List Int} : w ∈ linesU n cells par K C ↔ ((∀ s ∈ w, 0 ≤ s ∧ s < n) ∧ w.length < K ∧ acc cells 0 w = true ∧ dist w par < C) := by
  unfold linesU linesC linesR
  rw [List.mem_flatMap]
  constructor
  · rintro ⟨c, hc, h⟩
    obtain ⟨r, hr, h⟩ := List.mem_flatMap.1 h
    obtain ⟨h1, h2⟩ := List.mem_filter.1 h
    simp only [Bool.and_eq_true, decide_eq_true_eq] at h2
    have hl := words_len w h1
    have hr := List.mem_range.1 hr
    have hc := List.mem_range.1 hc
    exact ⟨mem_words.1 (by rw [hl]; exact h1), by omega, h2.1, by omega⟩
  · rintro ⟨h1, h2, h3, h4⟩
    have h0 := (dist_bd w par).1
    refine ⟨(dist w par).toNat, List.mem_range.2 (by omega), List.mem_flatMap.2 ⟨w.length, List.mem_range.2 h2, List.mem_filter.2 ⟨mem_words.2 h1, ?_⟩⟩⟩
    simp only [Bool.and_eq_true, decide_eq_true_eq]
    exact ⟨h3, by omega⟩
/-- beyond the greatest number of changes there is nothing more -/
theorem linesU_more {n : Int} {cells : List Cel} {par : List Int} {K C : Nat} (h : ∀ w, w.length < K → acc cells 0 w = true → dist w par < C) : ∀ d, linesU n cells par K (C + d) = linesU n cells par K C
  | 0 => rfl
  | d + 1 => by
    rw [show C + (d + 1) = (C + d) + 1 from rfl, linesU_succ, linesU_more h d]
    have : linesC n cells par K ((C + d : Nat) : Int) = [] := by
      unfold linesC linesR
      rw [List.flatMap_eq_nil_iff]
      intro r hr
      rw [List.filter_eq_nil_iff]
      intro w hw hc
      simp only [Bool.and_eq_true, decide_eq_true_eq] at hc
      have := h w (by rw [words_len w hw]; exact List.mem_range.1 hr) hc.1
      omega
    rw [this, List.append_nil]
theorem fsGo_spec {n : Int} {cells : List Cel} {par : List Int} {K : Nat} {most all tt : Int} {F : List Int → Rst} {wk : Int → Int → List Rst → Option (List Rst × Bool)} (hK : tt + 1 = K) (hm1 : 1 ≤ most) (hm2 : most ≤ 1000) {Cx : Nat}
    (hbig : ∀ w, w.length < K → acc cells 0 w = true → dist w par < Cx) (hall : all = min ((linesU n cells par K Cx).length : Int) CMAX)
    (hwk : ∀ (c : Nat) (r : Nat), r < K → ∀ (out : List Rst) (m : Nat), (out.length : Int) + m = most → 1 ≤ m → wk c r out = some (out ++ ((linesR n cells par c r).take m).map F, decide ((linesR n cells par c r).length < m))) :
    ∀ (f c : Nat), Cx + 1 ≤ c + f → c ≤ Cx → fsGo wk most all tt f c (((linesU n cells par K c).take most.toNat).map F) = some (((linesU n cells par K Cx).take most.toNat).map F)
  | 0, c, h, hcx => by omega
  | f + 1, c, h, hcx => by
    have hcm : CMAX = 1099511627776 := rfl
    have hstab : Cx ≤ c → linesU n cells par K c = linesU n cells par K Cx := fun hc => by
      have := linesU_more (n := n) hbig (c - Cx)
      rw [show Cx + (c - Cx) = c from by omega] at this; exact this
    have hpre : c ≤ Cx → ∃ X, linesU n cells par K Cx = linesU n cells par K c ++ X := fun hc => by
      have key : ∀ d, ∃ X, linesU n cells par K (c + d) = linesU n cells par K c ++ X := by
        intro d
        induction d with
        | zero => exact ⟨[], by simp⟩
        | succ d ih =>
          obtain ⟨X, hX⟩ := ih
          exact ⟨X ++ linesC n cells par K ((c + d : Nat) : Int), by rw [show c + (d + 1) = (c + d) + 1 from rfl, linesU_succ, hX, List.append_assoc]⟩
      have := key (Cx - c)
      rw [show c + (Cx - c) = Cx from by omega] at this; exact this
    have hlen : (((linesU n cells par K c).take most.toNat).map F).length = min most.toNat (linesU n cells par K c).length := by simp
    rw [fsGo]
    by_cases hlt : ((((linesU n cells par K c).take most.toNat).map F).length : Int) < min most all
    · rw [if_pos hlt]
      rw [hlen] at hlt
      have hUl : (linesU n cells par K c).length < most.toNat := by omega
      have hcc : c < Cx := by
        refine Classical.byContradiction fun hc => ?_
        rw [hstab (by omega)] at hlt hUl
        omega
      have hck := chGo_spec (most := most) (F := F) (L := fun r => linesR n cells par c r.toNat) (wk := wk c) (upto (tt + 1)) (((linesU n cells par K c).take most.toNat).map F) (most.toNat - (linesU n cells par K c).length) (by rw [hlen]; omega) (by omega) (fun r hr out m h1 h2 => by
        have hr := mem_upto.1 hr
        have := hwk c r.toNat (by omega) out m h1 h2
        rw [show ((r.toNat : Nat) : Int) = r from by omega] at this
        exact this)
      rw [hck]
      simp only
      have e1 : ((upto (tt + 1)).flatMap fun r => linesR n cells par c r.toNat) = linesC n cells par K c := by
        unfold linesC upto
        rw [show (tt + 1).toNat = K from by omega, List.flatMap_map]
        simp
      rw [e1]
      have e2 : ((linesU n cells par K c).take most.toNat).map F ++ ((linesC n cells par K c).take (most.toNat - (linesU n cells par K c).length)).map F = ((linesU n cells par K (c + 1)).take most.toNat).map F := by
        rw [linesU_succ, take_app, if_pos hUl, List.map_append, List.take_of_length_le (l := linesU n cells par K c) (by omega)]
      rw [e2]
      have ih := fsGo_spec hK hm1 hm2 hbig hall hwk f (c + 1) (by omega) (by omega)
      rw [show ((c : Int) + 1) = ((c + 1 : Nat) : Int) from by omega]
      exact ih
    · rw [if_neg hlt]
      rw [hlen] at hlt
      congr 2
      by_cases hc : Cx ≤ c
      · rw [hstab hc]
      · obtain ⟨X, hX⟩ := hpre (by omega)
        rw [hX] at hall ⊢
        rw [List.length_append] at hall
        rw [take_app]
        by_cases h1 : (linesU n cells par K c).length < most.toNat
        · rw [if_pos h1]
          have hX0 : X.length = 0 := by omega
          rw [List.eq_nil_of_length_eq_zero hX0]
          rw [List.take_of_length_le (by omega)]; simp
        · rw [if_neg h1]
/-- all restorations, in order -/
def allLines (n : Int) (cells : List Cel) (par : List Int) : List (List Int) := linesU n cells par ((totM cells).toNat + 1) 200
theorem firstM_gen {n : Int} {cells : List Cel} {par : List Int} (h : right n cells = true) (hpl : par.length ≤ 60) {most : Int} (hm1 : 1 ≤ most) (hm2 : most ≤ 1000) {B C f1 f2 f3 : Nat} (hB : 450 ≤ B) (hC : 200 ≤ C) (hf1 : 100 ≤ f1) (hf2 : 100 ≤ f2) (hf3 : C + 1 ≤ f3) :
    firstM n 20000 cells (posOf cells 0) par most f1 f2 f3 = some (((linesU n cells par ((totM cells).toNat + 1) C).take most.toNat).map (restored cells par)) := by
  obtain ⟨e, hs⟩ := envOf h
  have ht0 := sum_nn (l := cells) e.mx
  obtain ⟨R, h1, h2, h3⟩ := begin_spec e.t e.cl (F := 20000) (by omega)
  have hmuS : ∀ x ∈ isort R, mu cells (at_ (posOf cells 0) x) ≤ 60 := fun x hx => by
    have hp := e.t.pv (h2.ir x hx)
    have := mu_le (cells := cells) (p := at_ (posOf cells 0) x) e.mx (by rcases hp with h | ⟨_, _, _, h, _⟩; rw [h]; simp; exact h)
    omega
  unfold firstM
  rw [h1]
  simp only
  obtain ⟨kn, h4, _⟩ := countM_spec (B := B) hB (n := n) e f1 (isort R) [] h2 (fun x hx => by have := hmuS x hx; omega) (fun k v hkv => by cases hkv)
  rw [h4]
  simp only
  have htt : totM cells = (cells.map (·.mx)).sum := rfl
  have hacc : ∀ w, acc cells 0 w = true → w.length < (totM cells).toNat + 1 := fun w hw => by
    have := accP_mu (cells := cells) (p := (0, 0)) e.mx (by
      have := e.t.pv (x := 0) ⟨by omega, by have := e.t.len; omega⟩
      have hz : at_ (posOf cells 0) 0 = (0, 0) := by
        have h1 := at_get (ps := posOf cells 0) (x := 0) ⟨by omega, by have := e.t.len; omega⟩
        rw [show (0 : Int).toNat = 0 from rfl, e.t.zero] at h1
        exact (Option.some.inj h1).symm
      rw [hz] at this; exact this) (w := w) (by unfold accP; simpa using hw)
    have h5 := mu_le (cells := cells) (p := (0, 0)) e.mx (by simp)
    omega
  have hall : min (T_ B n cells (posOf cells 0) (isort R)) CMAX = min ((linesU n cells par ((totM cells).toNat + 1) C).length : Int) CMAX := by
    congr 1
    rw [linesU_len]
    have e1 : T_ B n cells (posOf cells 0) (isort R) = tot n (acc cells 0) ((totM cells).toNat + 1) := by
      unfold T_
      rw [tot_congr h3]
      exact tot_eq (fun w hw => by have := hacc w hw; omega) hacc
    rw [e1, tot_range]
    refine congrArg List.sum (List.map_congr_left fun r hr => ?_)
    congr 2
    refine List.filter_congr fun w hw => ?_
    have hb := dist_bd w par
    have hwl := words_len w hw
    have hr := List.mem_range.1 hr
    rw [show decide (dist w par < ((C : Nat) : Int)) = true from decide_eq_true (by omega), Bool.and_true]
  have hgo := fsGo_spec (n := n) (cells := cells) (par := par) (K := (totM cells).toNat + 1) (most := most) (all := min (T_ B n cells (posOf cells 0) (isort R)) CMAX) (tt := totM cells) (F := restored cells par) (Cx := C)
    (wk := fun c r out => walkM n 20000 cells (posOf cells 0) par (restL cells (posOf cells 0) par (totM cells + 1).toNat) most c f2 (isort R) (upto (par.length + 1)) [] r out)
    (by omega) hm1 hm2 (fun w hw ha => by have := dist_bd w par; omega) hall (fun c r hr out m ho hm => by
      have hw := (walkM_spec (n := n) e hpl (R := (totM cells + 1).toNat) (by omega) (ch := c) hm2 f2 (isort R) (upto (par.length + 1)) [] r out m h2
        ⟨by rw [upto_len]; omega, fun v hv => by have := mem_upto.1 hv; simp only [List.length_nil]; omega⟩ (by omega) (by omega) (by simp; omega) ho hm).eq
      have hL : Lw n cells (posOf cells 0) par (isort R) (upto (par.length + 1)) c r = linesR n cells par c r := by
        unfold Lw linesR
        refine List.filter_congr fun w _ => ?_
        rw [h3 w, finR_dist]
      rw [hL] at hw
      simpa using hw) f3 0 (by omega) (by omega)
  have e0 : linesU n cells par ((totM cells).toNat + 1) 0 = [] := rfl
  rw [e0, List.take_nil, List.map_nil, show ((0 : Nat) : Int) = 0 from rfl] at hgo
  exact hgo
theorem firstM_spec {n : Int} {cells : List Cel} {par : List Int} (h : right n cells = true) (hpl : par.length ≤ 60) {most : Int} (hm1 : 1 ≤ most) (hm2 : most ≤ 1000) :
    firstM n 20000 cells (posOf cells 0) par most 1000 1000 10000 = some (((allLines n cells par).take most.toNat).map (restored cells par)) :=
  firstM_gen h hpl hm1 hm2 (B := 450) (C := 200) (by decide) (by decide) (by decide) (by decide) (by decide)
end Go.Abs.Wall
set_option maxRecDepth 100000
set_option linter.unusedVariables false
namespace Go.Abs.Wall
open Go Go.Abs Go.Proofs
/-! ### theory: what is among the lines -/
theorem acc_rep (c : Cel) (cs : List Cel) (s : Int) (hs : allows c s = true) : ∀ (m : Nat) (k : Int) (w : List Int), k + m = c.mn → c.mn ≤ c.mx → acc cs 0 w = true → acc (c :: cs) k (List.replicate m s ++ w) = true
  | 0, k, w, h1, h2, h3 => by
    rw [List.replicate_zero, List.nil_append]
    cases w with
    | nil => rw [acc]; simp only [Bool.and_eq_true, decide_eq_true_eq]; exact ⟨by omega, h3⟩
    | cons x w => rw [acc]; simp only [Bool.or_eq_true, Bool.and_eq_true, decide_eq_true_eq]; exact .inl ⟨by omega, h3⟩
  | m + 1, k, w, h1, h2, h3 => by
    rw [List.replicate_succ, List.cons_append, acc]
    simp only [Bool.or_eq_true, Bool.and_eq_true, decide_eq_true_eq]
    exact .inr ⟨⟨by omega, hs⟩, acc_rep c cs s hs m (k + 1) w (by omega) h2 h3⟩
def leastW : List Cel → List Int
  | [] => []
  | c :: cs => List.replicate c.mn.toNat (c.signs.headD 0) ++ leastW cs
theorem head_ok (c : Cel) : allows c (c.signs.headD 0) = true := by
  unfold allows
  cases h : c.signs with
  | nil => simp
  | cons a t => simp
theorem leastW_acc {n : Int} : ∀ cs : List Cel, (∀ c ∈ cs, CelV n c) → acc cs 0 (leastW cs) = true
  | [], _ => by rw [leastW, acc]; rfl
  | c :: cs, h => by
    have hc := h c (by simp)
    have h0 := hc.mn
    rw [leastW]
    exact acc_rep c cs _ (head_ok c) _ 0 _ (by omega) hc.mx (leastW_acc cs fun d hd => h d (by simp [hd]))
theorem leastW_in {n : Int} (hn : 0 ≤ n) : ∀ cs : List Cel, (∀ c ∈ cs, CelV n c) → ∀ s ∈ leastW cs, 0 ≤ s ∧ s < n
  | [], _ => by simp [leastW]
  | c :: cs, h => by
    intro s hs
    have hc := h c (by simp)
    rw [leastW, List.mem_append] at hs
    rcases hs with hs | hs
    · obtain ⟨h1, rfl⟩ := List.mem_replicate.1 hs
      have h2 := hc.none; have h3 := hc.mx
      have hr := rises_iff.1 hc.up
      cases hsg : c.signs with
      | nil => simp only [List.headD_nil]; have : n ≠ 0 := fun e => by have := h2 e; omega
               omega
      | cons a t => simp only [List.headD_cons]; exact hr.1 a (by rw [hsg]; simp)
    · exact leastW_in hn cs (fun d hd => h d (by simp [hd])) s hs
theorem acc_len {n : Int} {cells : List Cel} (h : right n cells = true) {w : List Int} (ha : acc cells 0 w = true) : (w.length : Int) ≤ totM cells ∧ w.length ≤ 60 := by
  obtain ⟨h1, h2, h3⟩ := right_iff.1 h
  have hm : ∀ c ∈ cells, 0 ≤ c.mx := fun c hc => by have := (h2 c hc).mn; have := (h2 c hc).mx; omega
  have := acc_mu cells 0 w hm (fun _ => rfl) (fun c hc => hm c (List.mem_of_getElem? hc)) ha
  have e : totM cells = (cells.map (·.mx)).sum := rfl
  omega
theorem mem_all {n : Int} {cells : List Cel} {par : List Int} (h : right n cells = true) (hpl : par.length ≤ 60) {w : List Int} : w ∈ allLines n cells par ↔ ((∀ s ∈ w, 0 ≤ s ∧ s < n) ∧ acc cells 0 w = true) := by
  unfold allLines
  rw [mem_linesU]
  constructor
  · rintro ⟨h1, _, h2, _⟩; exact ⟨h1, h2⟩
  · rintro ⟨h1, h2⟩
    have := acc_len h h2
    have h3 := dist_bd w par
    exact ⟨h1, by omega, h2, by omega⟩
theorem all_ne {n : Int} {cells : List Cel} {par : List Int} (hn : 0 ≤ n) (h : right n cells = true) (hpl : par.length ≤ 60) : ∃ w ws, allLines n cells par = w :: ws := by
  have h2 := (right_iff.1 h).2.1
  have := (mem_all h hpl).2 ⟨leastW_in hn cells h2, leastW_acc cells h2⟩
  cases hl : allLines n cells par with
  | nil => rw [hl] at this; cases this
  | cons w ws => exact ⟨w, ws, rfl⟩
theorem fit_acc {n : Int} {cells : List Cel} (h : right n cells = true) (w : List Int) : fitB cells w = acc cells 0 w :=
  fitB_acc cells w fun c hc => by have := ((right_iff.1 h).2.1 c hc).mn; have := ((right_iff.1 h).2.1 c hc).mx; omega
end Go.Abs.Wall
set_option maxRecDepth 100000
set_option linter.unusedVariables false
namespace Go.Abs.Wall
open Go Go.Abs Go.Proofs
/-! ### the program's search, with no search in sight -/
theorem check1_iff {l : Lst} {cells : List Cel} {par : List Int} : checkErr1 l cells par = 0 ↔ (checkErr l cells = 0 ∧ lineErr l.signs.length par = 0) := by
  unfold checkErr1
  split
  · rename_i h; exact ⟨fun h1 => absurd h1 h, fun h1 => absurd h1.1 h⟩
  · rename_i h; simp at h; simp [h]
theorem check_right {l : Lst} {cells : List Cel} (h : checkErr l cells = 0) : right l.signs.length cells = true := by
  unfold checkErr at h
  split at h
  · rename_i h1; exact absurd h h1
  · split at h
    · rename_i h2; exact h2
    · cases h
end Go.Abs.Wall
set_option maxRecDepth 100000
set_option linter.unusedVariables false
namespace Go.Abs.Wall
open Go Go.Abs Go.Proofs Go.Proofs.Ytbgnfchlelhbeaa.Br
/-! ### Itself -/
end Go.Abs.Wall

