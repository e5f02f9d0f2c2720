/- What is proved: small laws for the walks of this seat, and contracts of its functions. No condition but those each theorem names. -/
import Derived.Test.YtbgnfchlelhbeaaM14
import Derived.Test.YtbgnfchlelhbeaaM7
set_option maxRecDepth 100000
set_option linter.unusedVariables false
set_option linter.unusedSimpArgs false
namespace Go.Abs.Wall
open Go Go.Abs Go.Proofs Go.Proofs.Ytbgnfchlelhbeaa.Br
/-! ### what follows itself, once -/
def ddT : Int → List Int → List Int
  | _, [] => []
  | p, x :: r => if x = p then ddT x r else x :: ddT x r
def dd : List Int → List Int
  | [] => []
  | x :: r => x :: ddT x r
theorem dd_up : ∀ (r : List Int) (p : Int), (p :: r).Pairwise (· ≤ ·) → (p :: ddT p r).Pairwise (· < ·) ∧ ∀ a, a ∈ p :: ddT p r ↔ a ∈ p :: r
  | [], p, _ => ⟨by simp [ddT], by simp [ddT]⟩
  | x :: r, p, h => by
    rw [List.pairwise_cons] at h
    obtain ⟨h1, h2⟩ := dd_up r x h.2
    rw [ddT]
    split
    · rename_i hx
      subst hx
      exact ⟨h1, fun a => by rw [h2 a]; simp⟩
    · rename_i hx
      have hpx := h.1 x (by simp)
      refine ⟨List.pairwise_cons.2 ⟨fun y hy => ?_, h1⟩, fun a => ?_⟩
      · rcases List.mem_cons.1 hy with rfl | hy'
        · omega
        · have := (List.pairwise_cons.1 h1).1 y hy'; omega
      · rw [List.mem_cons, h2 a]; simp
theorem up_ext : ∀ {a b : List Int}, a.Pairwise (· < ·) → b.Pairwise (· < ·) → (∀ x, x ∈ a ↔ x ∈ b) → a = b
  | [], [], _, _, _ => rfl
  | [], y :: b, _, _, h => by have := (h y).2 (by simp); cases this
  | x :: a, [], _, _, h => by have := (h x).1 (by simp); cases this
  | x :: a, y :: b, ha, hb, h => by
    rw [List.pairwise_cons] at ha hb
    have hxy : x = y := by
      have h1 := (h x).1 (by simp)
      have h2 := (h y).2 (by simp)
      rcases List.mem_cons.1 h1 with e | h1
      · exact e
      · rcases List.mem_cons.1 h2 with e | h2
        · exact e.symm
        · have := ha.1 y h2; have := hb.1 x h1; omega
    subst hxy
    congr 1
    refine up_ext ha.2 hb.2 fun z => ⟨fun hz => ?_, fun hz => ?_⟩
    · have := (h z).1 (by simp [hz])
      rcases List.mem_cons.1 this with rfl | h'
      · have := ha.1 z hz; omega
      · exact h'
    · have := (h z).2 (by simp [hz])
      rcases List.mem_cons.1 this with rfl | h'
      · have := hb.1 z hz; omega
      · exact h'
theorem intsV_get {l : List Int} {i : Nat} {x : Int} (h : l[i]? = some x) : (intsV l)[i]? = some (.int .i64 x) := by simp [intsV, h]
theorem intsV_set {l : List Int} {i : Nat} {x : Int} : (intsV l).set i (.int .i64 x) = intsV (l.set i x) := by simp [intsV, List.map_set]
theorem intsV_len (l : List Int) : (intsV l).length = l.length := by simp [intsV]
def c128 : Cfg := ⟨[0, 2, 3, 4, 5, 8, 13, 25, 32, 44], [], [], [], [(6, [0, 1, 2, 3, 4, 5, 6, 7, 8, 9], []), (11, [0, 1, 2, 3, 4, 5, 6, 7, 8, 9], [])], []⟩
theorem compactW (b : Nat) (l : List Int) (hl : l.length ≤ AMAX) : ACalls Try.prog 128 [.osl b 0 l.length 1] [(b, .vec (intsV l))] (fun v h' => v = .osl b 0 (dd l).length 1 ∧ ∃ Z, h' = [(b, .vec (intsV (dd l) ++ Z))]) := by
  unfold AMAX at hl
  refine fcalls (F := Try.f128) c128 rfl rfl rfl mixed rfl fun X => ?_
  conv => whnf
  skip
  refine ⟨fun hs => ?_, fun hs => ?_⟩ <;> simp at hs
  · have hd : dd l = l := by
      match l, hs with
      | [], _ => rfl
      | [x], _ => rfl
    conv => whnf
    skip
    exact ⟨by rw [hd], [], by rw [hd]; simp⟩
  conv => whnf
  skip
  refine sloop rfl mixed [0, 3] [] (fun m r h => ∃ (k : Nat), r = [(0, [], .osl b 0 l.length 1), (3, [], .int .i64 k)] ∧ h = [(b, .vec (intsV l))] ∧ m = l.length - k ∧ 1 ≤ k ∧ k ≤ l.length ∧ ∀ p, l[k - 1]? = some p → dd l = l.take k ++ ddT p (l.drop k)) ?_ ?_
  · conv => whnf
    refine ⟨_, 1, rfl, rfl, rfl, by omega, by omega, fun p hp => ?_⟩
    match l, hp with
    | x :: r, hp => simp at hp; subst hp; rfl
  · rintro m r h ⟨k, rfl, rfl, rfl, hk1, hk2, hd⟩
    conv => whnf
    refine ⟨fun hf => ?_, fun hf => ?_⟩ <;> simp at hf
    · obtain ⟨x, hx⟩ := get_lt hf
      obtain ⟨p, hp⟩ := get_lt (l := l) (i := k - 1) (by omega)
      have hd := hd p hp
      rw [drop_cons hx, ddT] at hd
      have hx' : (intsV l)[0 + k * 1]? = some (.int .i64 x) := by rw [Nat.zero_add, Nat.mul_one]; exact intsV_get hx
      have hp' : (intsV l)[0 + (k - 1) * 1]? = some (.int .i64 p) := by rw [Nat.zero_add, Nat.mul_one]; exact intsV_get hp
      conv => whnf
      repeat ((first | refine ⟨gP_of ⟨by omega, by omega⟩, ?_⟩ | (refine ixo (i := k) (by omega) ?_) | (refine ⟨k - 1, gP_of ⟨by omega, by omega⟩, ?_⟩) | (refine ldo (v := .int .i64 x) (.head _) rfl hx' ?_)
                     | (refine ldo (v := .int .i64 p) (.head _) rfl hp' ?_) | refine And.intro (by show drawOK (opsAt Try.f128 _) _ = true; decide +kernel) ?_); conv => whnf)
      refine ⟨fun hq => ?_, fun hq => ?_⟩ <;> simp at hq
      · rw [if_pos hq] at hd
        conv => whnf
        repeat (refine ⟨gP_of ⟨by omega, by omega⟩, ?_⟩; conv => whnf)
        refine sloop rfl mixed [0, 3, 4, 5] [] (fun m r h => ∃ (i : Nat) (kk : Nat) (C : List Int), r = [(0, [], .osl b 0 l.length 1), (3, [], .int .i64 kk), (4, [], .osl b (0 + (k : Int).toNat * 1) ((l.length : Int).toNat - (k : Int).toNat) 1), (5, [], .int .i64 i)] ∧ h = [(b, .vec (intsV C))] ∧ m = l.length - i ∧ (1 ≤ i ∧ k + i ≤ l.length ∧ 1 ≤ kk ∧ kk + 1 ≤ k + i ∧ C.length = l.length) ∧ (∀ j, kk ≤ j → C[j]? = l[j]?) ∧ ∀ p, l[k + i - 1]? = some p → dd l = C.take kk ++ ddT p (l.drop (k + i))) ?_ ?_
        · conv => whnf
          refine ⟨_, 1, k, l, rfl, rfl, rfl, by omega, fun _ _ => rfl, fun p' hp' => ?_⟩
          rw [Nat.add_sub_cancel, hx] at hp'; cases hp'; exact hd
        · rintro m r h ⟨i, kk, C, rfl, rfl, rfl, ⟨hi1, hi2, hk3, hk4, hCl⟩, hC, hd⟩
          conv => whnf
          refine ⟨fun hf2 => ?_, fun hf2 => ?_⟩ <;> simp only [decide_eq_true_eq, decide_eq_false_iff_not] at hf2
          · obtain ⟨x2, hx2⟩ := get_lt (l := l) (i := k + i) (by omega)
            obtain ⟨p2, hp2⟩ := get_lt (l := l) (i := k + i - 1) (by omega)
            have hd := hd p2 hp2
            rw [drop_cons hx2, ddT] at hd
            have hcx : (intsV C)[0 + (k : Int).toNat * 1 + i * 1]? = some (.int .i64 x2) := by
              rw [show 0 + (k : Int).toNat * 1 + i * 1 = k + i by omega]; exact intsV_get (by rw [hC _ (by omega)]; exact hx2)
            have hcp : (intsV C)[0 + (k : Int).toNat * 1 + (i - 1) * 1]? = some (.int .i64 p2) := by
              rw [show 0 + (k : Int).toNat * 1 + (i - 1) * 1 = k + i - 1 by omega]; exact intsV_get (by rw [hC _ (by omega)]; exact hp2)
            conv => whnf
            repeat ((first | refine ⟨gP_of ⟨by omega, by omega⟩, ?_⟩ | (refine ixo (i := i) (by omega) ?_) | (refine ⟨i - 1, gP_of ⟨by omega, by omega⟩, ?_⟩) | (refine ldo (v := .int .i64 x2) (.head _) rfl hcx ?_)
                           | (refine ldo (v := .int .i64 p2) (.head _) rfl hcp ?_) | refine And.intro (by show drawOK (opsAt Try.f128 _) _ = true; decide +kernel) ?_); conv => whnf)
            refine ⟨fun hq2 => ?_, fun hq2 => ?_⟩ <;> simp at hq2
            · rw [if_neg hq2] at hd
              conv => whnf
              repeat ((first | refine ⟨gP_of ⟨by omega, by omega⟩, ?_⟩ | (refine ixo (i := i) (by omega) ?_) | (refine ixo (i := kk) (by omega) ?_) | (refine ldo (v := .int .i64 x2) (.head _) rfl hcx ?_)
                             | (refine sto (v := .int .i64 x2) (by rw [intsV_len]; omega) (.here _) ?_)); conv => whnf)
              refine ⟨_, by omega, i + 1, kk + 1, C.set kk x2, rfl, heap1 (by rw [Nat.zero_add, Nat.mul_one, intsV_set]), rfl, ⟨by omega, by omega, by omega, by omega, by rw [List.length_set]; exact hCl⟩, fun j hj => ?_, fun p' hp' => ?_⟩
              · rw [List.getElem?_set_ne (by omega)]; exact hC j (by omega)
              · rw [show k + (i + 1) - 1 = k + i by omega, hx2] at hp'; cases hp'
                rw [hd, List.take_add_one, List.take_set_of_le (Nat.le_refl _), List.getElem?_set_self (by omega)]
                simp [Nat.add_assoc]
            · rw [if_pos hq2] at hd
              conv => whnf
              repeat (refine ⟨gP_of ⟨by omega, by omega⟩, ?_⟩; conv => whnf)
              refine ⟨_, by omega, i + 1, kk, C, rfl, rfl, rfl, ⟨by omega, by omega, by omega, by omega, hCl⟩, hC, fun p' hp' => ?_⟩
              rw [show k + (i + 1) - 1 = k + i by omega, hx2] at hp'; cases hp'
              rw [hd]; rfl
          · obtain ⟨p2, hp2⟩ := get_lt (l := l) (i := k + i - 1) (by omega)
            have hd := hd p2 hp2
            rw [drop_nil (by omega), ddT, List.append_nil] at hd
            have hdl : (dd l).length = kk := by rw [hd, List.length_take]; omega
            conv => whnf
            repeat (refine ⟨gP_of ⟨by omega, by omega⟩, ?_⟩; conv => whnf)
            refine ⟨intsV C, _, .here _, ⟨by omega, by rw [intsV_len]; omega⟩, ?_⟩
            conv => whnf
            repeat (refine ⟨gP_of ⟨by omega, by omega⟩, ?_⟩; conv => whnf)
            refine ⟨?_, ?_⟩
            · rw [hdl]; simp
            · refine ⟨repC ((l.length : Int).toNat - (kk : Int).toNat) [.int .i64 0], heap1 ?_⟩
              unfold setC
              rw [List.drop_of_length_le (by unfold repC; simp [intsV_len]; omega), List.append_nil, hd]
              congr 1
              simp [intsV, List.map_take]
      · rw [if_neg hq] at hd
        conv => whnf
        repeat (refine ⟨gP_of ⟨by omega, by omega⟩, ?_⟩; conv => whnf)
        refine ⟨_, by omega, k + 1, rfl, rfl, rfl, by omega, by omega, fun p' hp' => ?_⟩
        rw [Nat.add_sub_cancel, hx] at hp'; cases hp'
        rw [hd, List.take_add_one, hx]; simp
    · obtain ⟨p, hp⟩ := get_lt (l := l) (i := k - 1) (by omega)
      have hd := hd p hp
      rw [drop_nil (by omega), ddT, List.append_nil, List.take_of_length_le (by omega)] at hd
      conv => whnf
      skip
      exact ⟨by rw [hd], [], by rw [hd]; simp⟩
end Go.Abs.Wall
set_option maxRecDepth 100000
set_option linter.unusedVariables false
namespace Go.Abs.Wall
open Go Go.Abs Go.Proofs Go.Proofs.Ytbgnfchlelhbeaa.Br
/-! ### the family of a sign -/
def famL (s : Int) (alike : List (List Int)) : List Int := s :: alike.flatMap fun f => if f.contains s then f else []
def famP (s : Int) (alike : List (List Int)) : List Int := dd ((famL s alike).mergeSort fun x y => decide (x ≤ y))
theorem ints_flat (l : List Int) : (ints l).flatten = intsV l := by
  unfold ints intsV
  induction l with
  | nil => rfl
  | cons x l ih => simp only [List.map_cons, List.flatten_cons, ih]; rfl
theorem famP_up (s : Int) (alike : List (List Int)) : (famP s alike).Pairwise (· < ·) ∧ ∀ a, a ∈ famP s alike ↔ a ∈ famL s alike := by
  have hp := List.mergeSort_perm (famL s alike) fun x y => decide (x ≤ y)
  have hs : ((famL s alike).mergeSort fun x y => decide (x ≤ y)).Pairwise (· ≤ ·) := by
    have := List.pairwise_mergeSort (le := fun (x y : Int) => decide (x ≤ y)) (fun a b c h1 h2 => by simp at h1 h2 ⊢; omega) (fun a b => by simp; omega) (famL s alike)
    exact this.imp fun h => by simpa using h
  unfold famP
  obtain ⟨S, hS⟩ : ∃ S, S = (famL s alike).mergeSort fun x y => decide (x ≤ y) := ⟨_, rfl⟩
  rw [← hS] at hp hs ⊢
  match S, hp, hs with
  | [], hp, _ => have := hp.length_eq; simp [famL] at this
  | x :: r, hp, hs =>
    obtain ⟨h1, h2⟩ := dd_up r x hs
    exact ⟨h1, fun a => by rw [show dd (x :: r) = x :: ddT x r from rfl, h2 a]; exact hp.mem_iff⟩
def c111 : Cfg := ⟨[0, 1, 4, 5, 7, 10, 11, 12, 13, 18], [9], [], [], [], [9]⟩
theorem famW' (s : Int) (alike : List (List Int)) (h1 : alike.length ≤ 40) (h2 : ∀ f ∈ alike, f.length ≤ 1048576) : ACalls Try.prog 111 [.int .i64 s, .sl 1 none (alike.map encL)] [] (fun v h' => ∃ b Z, v = .osl b 0 (famP s alike).length 1 ∧ h' = [(b, .vec (intsV (famP s alike) ++ Z))]) := by
  refine fcalls (F := Try.f111) c111 rfl rfl rfl mixed rfl fun X => ?_
  conv => whnf
  intro b0
  conv => whnf
  refine sloop rfl mixed [0, 5, 10, 11, 12] [] (fun m r h => ∃ (i : Nat) (b : Nat) (F : List Int), r = [(0, [], .int .i64 s), (5, [], .osl b 0 F.length 1), (10, [], .sl 1 none (alike.map encL)), (11, [], .int .i64 (alike.map encL).length), (12, [], .int .i64 i)] ∧ h = [(b, .vec (intsV F))] ∧ m = alike.length - i ∧ i ≤ alike.length ∧ F.length ≤ 1 + i * 1048576 ∧ famL s alike = F ++ (alike.drop i).flatMap fun f => if f.contains s then f else []) ?_ ?_
  · conv => whnf
    exact ⟨_, 0, b0, [s], rfl, rfl, rfl, by omega, by simp, rfl⟩
  · rintro m r h ⟨i, b, F, rfl, rfl, rfl, hi, hFl, hF⟩
    conv => whnf
    refine ⟨fun hf => ?_, fun hf => ?_⟩ <;> simp at hf
    · obtain ⟨f, hx⟩ := get_lt hf
      have hfl := h2 f (List.mem_of_getElem? hx)
      rw [drop_cons hx, List.flatMap_cons] at hF
      conv => whnf
      repeat ((first | refine ix (by assumption) ?_ | refine QCall.k0 (containsI f s (by unfold LMAX; omega)) ?_); conv => whnf)
      refine ⟨fun hg => ?_, fun hg => ?_⟩
      · rw [if_pos hg] at hF
        conv => whnf
        repeat ((first | refine ⟨gP_of ⟨by omega, by omega⟩, ?_⟩ | (refine ⟨intsV F, .head _, ⟨by rw [intsV_len]; omega, by rw [ints_length]; unfold AMAX; omega⟩, fun b' => ⟨_, .here _, ?_⟩⟩)); conv => whnf)
        rw [ints_flat, ints_length]
        refine ⟨_, by omega, i + 1, b', F ++ f, by rw [List.length_append]; rfl, heap1 (by simp [intsV]), rfl, by omega, by rw [List.length_append]; omega, by rw [hF, List.append_assoc]⟩
      · rw [if_neg (by rw [hg]; simp), List.nil_append] at hF
        conv => whnf
        repeat (refine ⟨gP_of ⟨by omega, by omega⟩, ?_⟩; conv => whnf)
        exact ⟨_, by omega, i + 1, b, F, rfl, rfl, rfl, by omega, Nat.le_trans hFl (by omega), hF⟩
    · rw [drop_nil (by omega), List.flatMap_nil, List.append_nil] at hF
      conv => whnf
      repeat ((refine ACalls.mono ?_ (sort_acalls ⟨_, _, Try.func91, rfl, rfl⟩ (fun blk off cap zs w h1 h2 h3 => Try.slices_Sort_int blk off cap zs w h1 h2 h3) b F)); conv => whnf)
      rintro v h' ⟨rfl, rfl⟩
      have hml : (F.mergeSort fun x y => decide (x ≤ y)).length = F.length := (List.mergeSort_perm F fun x y => decide (x ≤ y)).length_eq
      have hcw := compactW b (F.mergeSort fun x y => decide (x ≤ y)) (by rw [hml]; unfold AMAX; omega)
      rw [hml] at hcw
      conv => whnf
      repeat ((refine ACalls.mono ?_ hcw); conv => whnf)
      rintro v h' ⟨rfl, Z, rfl⟩
      conv => whnf
      skip
      refine ⟨b, Z, ?_, ?_⟩
      · unfold famP; rw [hF]
      · unfold famP; rw [hF]
theorem famW (s : Int) (alike : List (List Int)) (h1 : alike.length ≤ 40) (h2 : ∀ f ∈ alike, f.length ≤ 1048576) : QCall Try.prog 111 [.int .i64 s, .sl 1 none (alike.map encL)] [] (.sl 1 none (ints (famP s alike))) := by
  refine QCall.of (ACalls.frz (famW' s alike h1 h2) ?_)
  rintro v h1 ⟨b, Z, rfl, rfl⟩
  refine ⟨b, _, [], [], _, .here _, .nil, FzV.row (pre := []) (post := [Z]) (xs' := []) ?_ rfl (by simp) (fun x hx => ?_), VLe.refl _⟩
  · simp [ints_flat]
  · obtain ⟨y, _, rfl⟩ := List.mem_map.1 hx; rfl
end Go.Abs.Wall
set_option maxRecDepth 100000
set_option linter.unusedVariables false
namespace Go.Abs.Wall
open Go Go.Abs Go.Proofs Go.Proofs.Ytbgnfchlelhbeaa.Br
/-! ### the cell of a mark -/
def markErr (n : Int) (m : Mrk) : Int := if m.sign < -1 ∨ n ≤ m.sign then 23 else if m.state < 0 ∨ 3 < m.state then 1 else 0
def celM (alike : List (List Int)) (layer : Int) (m : Mrk) : Cel := if m.sign < 0 then ⟨m.mn, m.mx, []⟩ else ⟨1, 1, if m.state = 1 then famP m.sign alike else if m.state = 0 ∨ (m.state = 3 ∧ layer = 0) then [m.sign] else []⟩
def celE (n : Int) (alike : List (List Int)) (layer : Int) (m : Mrk) : Cel := if markErr n m = 0 then celM alike layer m else ⟨0, 0, []⟩
theorem nilCel {a b e : Int} : VLe (.tup [.agg [.int .i64 a, .int .i64 b, .nilS], .int .i64 e]) (.tup [.agg (encCel ⟨a, b, []⟩), .int .i64 e]) := by
  have hN := VLe.nil (k := 1) (by decide)
  exact VLe.tup (.cons (VLe.agg (.cons (VLe.refl _) (.cons (VLe.refl _) (.cons hN .nil)))) (VsLe.refl _))
def c80 : Cfg := ⟨[0, 1, 2, 3, 5, 8, 9, 10, 11, 19, 25, 35, 44], [], [], [], [], []⟩
theorem cellW (n : Int) (alike : List (List Int)) (layer : Int) (m : Mrk) (hn0 : 0 ≤ n) (hn : n ≤ 1048576) (h1 : alike.length ≤ 40) (h2 : ∀ f ∈ alike, f.length ≤ 1048576) :
    QCall Try.prog 80 [.int .i64 n, .agg (encMrk m), .sl 1 none (alike.map encL), .int .i64 layer] [] (.tup [.agg (encCel (celE n alike layer m)), .int .i64 (markErr n m)]) := by
  refine QCall.of ?_
  refine fcalls (F := Try.f80) c80 rfl rfl rfl mixed rfl fun X => ?_
  conv => whnf
  intro rb
  conv => whnf
  repeat ((first | refine ⟨gP_of ⟨by omega, by omega⟩, ?_⟩ | refine QCall.k0 (within m.sign (-1) (n - 1)) ?_); conv => whnf)
  refine ⟨fun hd => ?_, fun hd => ?_⟩ <;> simp at hd
  · have e : markErr n m = 23 := by unfold markErr; rw [if_pos (by omega)]
    unfold celE
    rw [e, if_neg (by decide)]
    conv => whnf
    repeat ((first | refine ⟨_, _, .head _, rfl, ?_⟩ | refine ⟨_, _, .here _, leOK, ?_⟩); conv => whnf)
    exact nilCel
  conv => whnf
  repeat (refine QCall.k0 (within m.state 0 3) ?_; conv => whnf)
  refine ⟨fun hs => ?_, fun hs => ?_⟩ <;> simp at hs
  · have e : markErr n m = 1 := by unfold markErr; rw [if_neg (by omega), if_pos (by omega)]
    unfold celE
    rw [e, if_neg (by decide)]
    conv => whnf
    repeat ((first | refine ⟨_, _, .head _, rfl, ?_⟩ | refine ⟨_, _, .here _, leOK, ?_⟩); conv => whnf)
    exact nilCel
  have e : markErr n m = 0 := by unfold markErr; rw [if_neg (by omega), if_neg (by omega)]
  unfold celE
  rw [e, if_pos rfl]
  unfold celM
  conv => whnf
  skip
  refine ⟨fun hz => ?_, fun hz => ?_⟩ <;> simp at hz
  · rw [if_pos hz]
    conv => whnf
    repeat ((first | refine ⟨_, _, .head _, rfl, ?_⟩ | refine ⟨_, _, .here _, leOK, ?_⟩); conv => whnf)
    exact nilCel
  rw [if_neg (by omega)]
  conv => whnf
  repeat ((first | refine ⟨_, _, .here _, leOK, ?_⟩ | intro (nb : Nat)); conv => whnf)
  refine ⟨fun hq => ?_, fun hq => ?_⟩ <;> simp at hq
  · rw [if_pos hq]
    conv => whnf
    repeat ((first | refine QCall.k0 (famW m.sign alike h1 h2) ?_ | refine ⟨_, _, .head _, rfl, ?_⟩ | refine ⟨_, _, .tail _ (.head _), rfl, ?_⟩ | refine ⟨_, _, .here _, leOK, ?_⟩
                   | refine ⟨_, _, .there (.here _), leOK, ?_⟩); conv => whnf)
    exact VLe.refl _
  rw [if_neg hq]
  conv => whnf
  skip
  refine ⟨fun hq0 => ?_, fun hq0 => ?_⟩ <;> simp at hq0
  · rw [if_pos (.inl hq0)]
    conv => whnf
    refine cT (by simpa using hq0) ?_
    conv => whnf
    repeat ((first | refine ⟨_, _, .head _, rfl, ?_⟩ | refine ⟨_, _, .tail _ (.head _), rfl, ?_⟩ | refine ⟨_, _, .here _, leOK, ?_⟩ | refine ⟨_, _, .there (.here _), leOK, ?_⟩); conv => whnf)
    exact VLe.tup (.cons (VLe.agg (.cons (VLe.refl _) (.cons (VLe.refl _) (.cons VLe.sl .nil)))) (VsLe.refl _))
  conv => whnf
  skip
  refine ⟨fun hq3 => ?_, fun hq3 => ?_⟩ <;> simp at hq3
  · rw [if_pos (.inr hq3)]
    conv => whnf
    repeat ((first | refine ⟨_, _, .head _, rfl, ?_⟩ | refine ⟨_, _, .tail _ (.head _), rfl, ?_⟩ | refine ⟨_, _, .here _, leOK, ?_⟩ | refine ⟨_, _, .there (.here _), leOK, ?_⟩); conv => whnf)
    exact VLe.tup (.cons (VLe.agg (.cons (VLe.refl _) (.cons (VLe.refl _) (.cons VLe.sl .nil)))) (VsLe.refl _))
  · rw [if_neg (by rintro (h | ⟨h3, h4⟩); exact hq0 h; exact hq3 h3 h4)]
    conv => whnf
    repeat ((first | refine ⟨_, _, .head _, rfl, ?_⟩ | refine ⟨_, _, .tail _ (.head _), rfl, ?_⟩ | refine ⟨_, _, .there (.here _), leOK, ?_⟩); conv => whnf)
    exact nilCel
end Go.Abs.Wall
set_option maxRecDepth 100000
set_option linter.unusedVariables false
namespace Go.Abs.Wall
open Go Go.Abs Go.Proofs Go.Proofs.Ytbgnfchlelhbeaa.Br
/-! ### cells of marks -/
def badF (n : Int) (f : List Int) : Bool := f.any fun s => !inR n s
def ofGo (n : Int) (alike : List (List Int)) (layer : Int) : List Mrk → List Cel → List Cel × Int
  | [], out => if right n out then (out, 0) else ([], 70)
  | m :: ms, out => if markErr n m ≠ 0 then ([], markErr n m) else ofGo n alike layer ms (out ++ [celM alike layer m])
def ofM (l : Lst) (ms : List Mrk) (alike : List (List Int)) (layer : Int) : List Cel × Int :=
  if lstErr l ≠ 0 then ([], lstErr l) else if 40 < ms.length ∨ 40 < alike.length then ([], 2) else
  if alike.any (badF l.signs.length) then ([], 23) else if layer < 0 ∨ 1 < layer then ([], 1) else ofGo l.signs.length alike layer ms []
def encCE (x : List Cel × Int) : AV := .tup [.sl 3 none (x.1.map encCel), .int .i64 x.2]
def c79 : Cfg := ⟨[0, 1, 3], [], [], [], [], []⟩
theorem badS (n s : Int) (hn0 : 0 ≤ n) (hn : n ≤ 1048576) : QCall Try.prog 79 [.int .i64 s, .iptr [.int .i64 n]] [] (.bool (!inR n s)) := by
  refine QCall.of ?_
  refine fcalls (F := Try.f79) c79 rfl rfl rfl mixed rfl fun X => ?_
  conv => whnf
  repeat ((first | refine ⟨gP_of ⟨by omega, by omega⟩, ?_⟩ | refine QCall.k0 (within s 0 (n - 1)) ?_); conv => whnf)
  exact VLe.refl _
theorem up_bd {n : Int} : ∀ (l : List Int) (a : Int), l.Pairwise (· < ·) → (∀ x ∈ l, a ≤ x ∧ x < n) → (l.length : Int) ≤ max 0 (n - a)
  | [], a, _, _ => by simp; omega
  | x :: l, a, h, hb => by
    rw [List.pairwise_cons] at h
    have h0 := hb x (by simp)
    have := up_bd l (x + 1) h.2 fun y hy => ⟨by have := h.1 y hy; omega, (hb y (by simp [hy])).2⟩
    simp only [List.length_cons]
    omega
theorem fam_in {n s : Int} {alike : List (List Int)} (h0 : 0 ≤ s ∧ s < n) (h : alike.any (badF n) = false) : ∀ x ∈ famL s alike, 0 ≤ x ∧ x < n := by
  intro x hx
  unfold famL at hx
  rcases List.mem_cons.1 hx with rfl | hx
  · exact h0
  · rw [List.mem_flatMap] at hx
    obtain ⟨f, hf, hx⟩ := hx
    split at hx
    · rw [List.any_eq_false] at h
      have hb := h f hf
      unfold badF at hb
      rw [Bool.not_eq_true, List.any_eq_false] at hb
      have := hb x hx
      unfold inR at this
      simp at this
      omega
    · cases hx
theorem fam_bd {n s : Int} {alike : List (List Int)} (hn : n ≤ 1048576) (h0 : 0 ≤ s ∧ s < n) (h : alike.any (badF n) = false) : (famP s alike).length ≤ 1048576 := by
  obtain ⟨h1, h2⟩ := famP_up s alike
  have := up_bd (n := n) (famP s alike) 0 h1 fun x hx => fam_in h0 h x ((h2 x).1 hx)
  omega
theorem celM_bd {n layer : Int} {alike : List (List Int)} {m : Mrk} (hn : n ≤ 1048576) (h : alike.any (badF n) = false) (hm : markErr n m = 0) : (celM alike layer m).signs.length ≤ 1048576 := by
  unfold markErr at hm
  split at hm
  · cases hm
  · rename_i h1
    unfold celM
    split
    · simp
    · simp only
      split
      · exact fam_bd hn (by omega) h
      · split <;> simp
theorem ofGo_fit {n layer : Int} {alike : List (List Int)} (hn : n ≤ 1048576) (h : alike.any (badF n) = false) : ∀ (ms : List Mrk) (out : List Cel), CelsFit out → out.length + ms.length ≤ 1048576 → CelsFit (ofGo n alike layer ms out).1
  | [], out, ho, _ => by
    rw [ofGo]
    split
    · exact ho
    · exact ⟨by simp, by simp⟩
  | m :: ms, out, ho, hl => by
    rw [ofGo]
    split
    · exact ⟨by simp, by simp⟩
    · rename_i hm
      simp only [List.length_cons] at hl
      refine ofGo_fit hn h ms _ ⟨by simp; omega, fun c hc => ?_⟩ (by simp; omega)
      rcases List.mem_append.1 hc with hc | hc
      · exact ho.signs c hc
      · rw [List.mem_singleton.1 hc]; exact celM_bd hn h (by simpa using hm)
theorem ofM_fit {l : Lst} {ms : List Mrk} {alike : List (List Int)} {layer : Int} : CelsFit (ofM l ms alike layer).1 := by
  have h0 : CelsFit [] := ⟨by simp, by simp⟩
  unfold ofM
  split
  · exact h0
  · rename_i h1
    split
    · exact h0
    · split
      · exact h0
      · rename_i h3
        split
        · exact h0
        · have := lst_ok (by simpa using h1)
          exact ofGo_fit (by omega) (by simpa using h3) ms [] h0 (by simp; omega)
def c46 : Cfg := ⟨[0, 1, 2, 3, 4, 8, 9, 10, 11, 13, 15, 16, 17, 21, 30, 34, 35, 36, 37, 42, 46, 47, 48, 49, 50, 62, 72], [], [11, 15, 16], [], [], []⟩
theorem wallOf (l : Lst) (ms : List Mrk) (alike : List (List Int)) (layer : Int) (hl : LstFit l) (hm : ms.length ≤ 1048576) (h1 : alike.length ≤ 1048576) (h2 : ∀ f ∈ alike, f.length ≤ 1048576) :
    QCall Try.prog 46 [.agg (encLst l), .sl 4 none (ms.map encMrk), .sl 1 none (alike.map encL), .int .i64 layer] [] (encCE (ofM l ms alike layer)) := by
  have nT : ∀ e : Int, VLe (.tup [.nilS, .int .i64 e]) (.tup [.sl 3 none [], .int .i64 e]) := fun e => nilTup (by decide)
  unfold ofM
  refine QCall.of ?_
  refine fcalls (F := Try.f46) c46 rfl rfl rfl mixed rfl fun X => ?_
  conv => whnf
  repeat (refine QCall.k0 (signsCheck l hl) ?_; conv => whnf)
  refine ⟨fun hd => ?_, fun hd => ?_⟩ <;> simp at hd
  · rw [if_pos hd]
    conv => whnf
    skip
    exact nT _
  rw [if_neg (by simpa using hd)]
  have hls := lst_ok hd
  conv => whnf
  skip
  refine ⟨fun hg => ?_, fun hg => ?_⟩ <;> simp at hg
  · rw [if_pos (by omega)]
    conv => whnf
    skip
    exact nT _
  rw [if_neg (by omega)]
  obtain ⟨n, hn⟩ : ∃ n : Int, n = l.signs.length := ⟨_, rfl⟩
  have hn0 : 0 ≤ n := by omega
  have hn1 : n ≤ 1048576 := by omega
  conv => whnf
  rw [List.length_map]
  repeat ((first | refine ⟨_, _, Rem.here _, ⟨Nat.le_of_ble_eq_true rfl, rfl⟩, ?_⟩ | intro (nb : Nat)); conv => whnf)
  rw [← hn]
  refine sloop rfl mixed [1, 2, 3, 8, 11, 34, 35, 36] [] (fun m r h => ∃ (i : Nat), r = [(1, [], .sl 4 none (ms.map encMrk)), (2, [], .sl 1 none (alike.map encL)), (3, [], .int .i64 layer), (8, [], .nilS), (11, [], .iptr [.int .i64 n]), (34, [], .sl 1 none (alike.map encL)), (35, [], .int .i64 (alike.map encL).length), (36, [], .int .i64 i)] ∧ h = [] ∧ m = alike.length - i ∧ i ≤ alike.length ∧ alike.any (badF n) = (alike.drop i).any (badF n)) ?_ ?_
  · conv => whnf
    exact ⟨_, 0, rfl, rfl, rfl, by omega, rfl⟩
  · rintro m r h ⟨i, rfl, rfl, rfl, hi, hb⟩
    conv => whnf
    refine ⟨fun hf => ?_, fun hf => ?_⟩ <;> simp at hf
    · obtain ⟨f, hx⟩ := get_lt hf
      have hfl := h2 f (List.mem_of_getElem? hx)
      rw [drop_cons hx, List.any_cons] at hb
      conv => whnf
      repeat ((first | refine ix (by assumption) ?_ | refine QCall.k0 (containsFuncI f (by unfold LMAX; omega) 79 [.iptr [.int .i64 n]] (fun s => !inR n s) fun w _ => badS n w hn0 hn1) ?_); conv => whnf)
      refine ⟨fun hq => ?_, fun hq => ?_⟩
      · rw [if_pos (by rw [hb]; unfold badF; rw [hq]; rfl)]
        conv => whnf
        skip
        exact nT _
      · rw [show badF n f = false from hq, Bool.false_or] at hb
        conv => whnf
        repeat (refine ⟨gP_of ⟨by omega, by omega⟩, ?_⟩; conv => whnf)
        exact ⟨_, by omega, i + 1, rfl, rfl, rfl, by omega, hb⟩
    · rw [drop_nil (by omega), List.any_nil] at hb
      rw [if_neg (by rw [hb]; simp)]
      conv => whnf
      repeat (refine QCall.k0 (within layer 0 1) ?_; conv => whnf)
      refine ⟨fun hq => ?_, fun hq => ?_⟩ <;> simp at hq
      · rw [if_pos (by omega)]
        conv => whnf
        skip
        exact nT _
      rw [if_neg (by omega)]
      conv => whnf
      skip
      refine sloop rfl mixed [2, 3, 8, 11, 47, 48, 49] [(8, 3)] (fun m r h => ∃ (i : Nat) (q : Nat) (out : List Cel), r = [(2, [], .sl 1 none (alike.map encL)), (3, [], .int .i64 layer), (8, [], .sl 3 (some q) (out.map encCel)), (11, [], .iptr [.int .i64 n]), (47, [], .sl 4 none (ms.map encMrk)), (48, [], .int .i64 (ms.map encMrk).length), (49, [], .int .i64 i)] ∧ h = [(q, .tok)] ∧ m = ms.length - i ∧ i ≤ ms.length ∧ out.length ≤ i ∧ CelsFit out ∧ ofGo n alike layer ms [] = ofGo n alike layer (ms.drop i) out) ?_ ?_
      · conv => whnf
        refine ⟨by decide, fun q => ?_⟩
        conv => whnf
        exact ⟨_, 0, q, [], rfl, rfl, rfl, by omega, by simp, ⟨by simp, by simp⟩, rfl⟩
      · rintro m r h ⟨i, q, out, rfl, rfl, rfl, hi, hol, hfit, ho⟩
        conv => whnf
        refine ⟨fun hf => ?_, fun hf => ?_⟩ <;> simp at hf
        · obtain ⟨x, hx⟩ := get_lt hf
          rw [drop_cons hx, ofGo] at ho
          have hcw := cellW n alike layer x hn0 hn1 (by omega) h2
          conv => whnf
          repeat ((first | refine ix (by assumption) ?_ | refine QCall.k0 (hcw) ?_ | refine ⟨_, _, Rem.here _, ⟨Nat.le_of_ble_eq_true rfl, rfl⟩, ?_⟩ | intro (nb : Nat)); conv => whnf)
          refine ⟨fun hz => ?_, fun hz => ?_⟩ <;> simp at hz
          · rw [if_pos hz] at ho
            rw [ho]
            conv => whnf
            skip
            exact nT _
          · rw [if_neg (by simpa using hz)] at ho
            rw [show celE n alike layer x = celM alike layer x from by unfold celE; rw [if_pos hz]]
            have hcb := celM_bd (layer := layer) hn1 hb hz
            conv => whnf
            repeat ((first | refine ⟨gP_of ⟨by omega, by omega⟩, ?_⟩ | (refine ⟨(by rw [List.length_append, List.length_map]; show _ + 1 ≤ 4294967296; omega), fun q' => ⟨_, .here _, ?_⟩⟩)); conv => whnf)
            refine ⟨_, by omega, i + 1, q', out ++ [celM alike layer x], by rw [List.map_append]; rfl, rfl, rfl, by omega, by simp; omega, ⟨by simp; omega, fun c hc => ?_⟩, ho⟩
            rcases List.mem_append.1 hc with hc | hc
            · exact hfit.signs c hc
            · rw [List.mem_singleton.1 hc]; exact hcb
        · rw [drop_nil (by omega), ofGo] at ho
          rw [ho]
          conv => whnf
          repeat ((refine QCall.k0 (QCall.args (rightW out n ⟨hn0, by omega⟩ hfit.l hfit.s) (.cons (VLe.refl _) (.cons VLe.sl .nil))) ?_); conv => whnf)
          refine ⟨fun hr => ?_, fun hr => ?_⟩ <;> simp at hr
          · rw [if_neg (by simp [hr])]
            conv => whnf
            skip
            exact nT _
          · rw [if_pos hr]
            conv => whnf
            skip
            exact VLe.tup (.cons VLe.sl (VsLe.refl _))
end Go.Abs.Wall
set_option maxRecDepth 100000
set_option linter.unusedVariables false
namespace Go.Abs.Wall
open Go Go.Abs Go.Proofs Go.Proofs.Ytbgnfchlelhbeaa.Br
/-! ### a number put into an ascending row -/
theorem hasO (b : Nat) (l : List Int) (v : Int) (hl : l.length ≤ LMAX) : QCall Try.prog 108 [.osl b 0 l.length 1, .int .i64 v] [(b, .vec (intsV l))] (.bool (l.contains v)) := by
  refine fcalls (F := Try.f108) c108 rfl rfl rfl mixed rfl fun X => ?_
  conv => whnf
  unfold LMAX at hl
  refine sloop rfl mixed [0, 1, 5] [] (fun m r h => ∃ (i : Nat), r = [(0, [], .osl b 0 l.length 1), (1, [], .int .i64 v), (5, [], .int .i64 i)] ∧ h = [(b, .vec (intsV l))] ∧ m = l.length - i ∧ i ≤ l.length ∧ l.contains v = (l.drop i).contains v) ?_ ?_
  · conv => whnf
    exact ⟨_, 0, rfl, rfl, rfl, by omega, rfl⟩
  · rintro m r h ⟨i, rfl, rfl, rfl, hi, hr⟩
    conv => whnf
    refine ⟨fun hc => ?_, fun hc => ?_⟩ <;> simp at hc
    · obtain ⟨x, hx⟩ := get_lt hc
      rw [drop_cons hx, List.contains_cons] at hr
      have hx' : (intsV l)[0 + i * 1]? = some (.int .i64 x) := by rw [Nat.zero_add, Nat.mul_one]; exact intsV_get hx
      conv => whnf
      repeat ((first | (refine ixo (i := i) (by omega) ?_) | (refine ldo (v := .int .i64 x) (.head _) rfl hx' ?_)); conv => whnf)
      refine ⟨fun hd => ?_, fun hd => ?_⟩ <;> simp at hd
      · conv => whnf
        exact ⟨by rw [hr, hd]; simp, rfl⟩
      · conv => whnf
        repeat (refine ⟨gP_of ⟨by omega, by omega⟩, ?_⟩; conv => whnf)
        exact ⟨_, by omega, i + 1, rfl, rfl, rfl, by omega, by rw [hr]; simp; intro h; exact absurd h.symm hd⟩
    · rw [drop_nil (by omega)] at hr
      conv => whnf
      exact ⟨by rw [hr]; rfl, rfl⟩
def c112 : Cfg := ⟨[0, 1, 4, 5, 8, 30], [], [], [], [(5, [0, 1, 2, 3, 4, 5, 6, 7, 8, 9, 10, 11, 12, 13], []), (7, [0, 1, 2, 3, 4, 5, 6, 7, 8, 9, 10, 11, 12, 13, 14, 15, 16, 17], [])], []⟩
theorem putW (b : Nat) (l : List Int) (n : Int) (hl : l.length ≤ 1048576) (hu : l.Pairwise (· < ·)) : ACalls Try.prog 112 [.osl b 0 l.length 1, .int .i64 n] [(b, .vec (intsV l))]
    (fun v h' => ∃ b' r, v = .osl b' 0 r.length 1 ∧ h' = [(b', .vec (intsV r))] ∧ r.Pairwise (· < ·) ∧ ∀ a, a ∈ r ↔ a = n ∨ a ∈ l) := by
  refine fcalls (F := Try.f112) c112 rfl rfl rfl mixed rfl fun X => ?_
  conv => whnf
  repeat ((refine QCall.k (hasO b l n (by unfold LMAX; omega)) ?_); conv => whnf)
  refine ⟨fun hd => ?_, fun hd => ?_⟩
  · conv => whnf
    skip
    rw [List.contains_iff_mem] at hd
    exact ⟨b, l, rfl, rfl, hu, fun a => ⟨.inr, fun h => by rcases h with rfl | h; exact hd; exact h⟩⟩
  · have hd : n ∉ l := fun h => by rw [List.contains_iff_mem.2 h] at hd; cases hd
    conv => whnf
    repeat ((refine ⟨intsV l, .head _, ⟨by rw [intsV_len]; omega, by unfold AMAX; simp; omega⟩, fun b' => ⟨_, .here _, ?_⟩⟩); conv => whnf)
    rw [show l.length + [[AV.int .i64 n]].length = l.length + 1 from rfl]
    repeat (refine ⟨gP_of ⟨by omega, by omega⟩, ?_⟩; conv => whnf)
    refine sloop rfl mixed [0, 5] [] (fun m r h => ∃ (A : List Int) (B : List Int), r = [(0, [], .osl b' 0 (l.length + 1) 1), (5, [], .int .i64 A.length)] ∧ h = [(b', .vec (intsV (A ++ n :: B)))] ∧ m = A.length ∧ A ++ B = l ∧ ∀ y ∈ B, n < y) ?_ ?_
    · conv => whnf
      refine ⟨_, l, [], ?_, ?_, rfl, by simp, by simp⟩
      · simp
      · exact heap1 (by simp [intsV])
    · rintro m r h ⟨A, B, rfl, rfl, rfl, rfl, hB⟩
      rcases (show A = [] ∨ ∃ A' y, A = A' ++ [y] from by rcases List.eq_nil_or_concat A with h | ⟨A', y, h⟩; exact .inl h; exact .inr ⟨A', y, by rw [h, List.concat_eq_append]⟩) with rfl | ⟨A, y, rfl⟩
      · rw [show ([] : List Int).length = 0 from rfl]
        conv => whnf
        repeat ((first | refine ⟨gP_of ⟨by omega, by omega⟩, ?_⟩ | (refine ixog (by intro g1; exfalso; revert g1; simp) ?_) | (refine ldo (v := .int .i64 n) (.head _) rfl rfl ?_)
                       | refine And.intro (by show drawOK (opsAt Try.f112 _) _ = true; decide +kernel) ?_); conv => whnf)
        refine cF (by first | rfl | simp) ?_
        conv => whnf
        skip
        refine ⟨b', n :: B, by simp, rfl, List.pairwise_cons.2 ⟨hB, by simpa using hu⟩, fun a => by simp⟩
      · have hg1 : (intsV ((A ++ [y]) ++ n :: B))[0 + (A.length + 1) * 1]? = some (.int .i64 n) := by
          rw [Nat.zero_add, Nat.mul_one]
          refine intsV_get ?_
          rw [List.getElem?_append_right (by simp), List.length_append]
          simp
        have hg2 : (intsV ((A ++ [y]) ++ n :: B))[0 + A.length * 1]? = some (.int .i64 y) := by
          rw [Nat.zero_add, Nat.mul_one]
          refine intsV_get ?_
          rw [List.append_assoc, List.getElem?_append_right (Nat.le_refl _)]
          simp
        have hll : (A ++ [y] ++ B).length = A.length + 1 + B.length := by simp; omega
        rw [show (A ++ [y]).length = A.length + 1 from by simp]
        conv => whnf
        repeat ((first | refine ⟨gP_of ⟨by omega, by omega⟩, ?_⟩ | (refine ⟨A.length + 1, gP_of ⟨by omega, by omega⟩, ?_⟩) | (refine ⟨A.length, gP_of ⟨by omega, by omega⟩, ?_⟩)
                       | (refine ldo (v := .int .i64 n) (.head _) rfl hg1 ?_) | (refine ldo (v := .int .i64 y) (.head _) rfl hg2 ?_) | refine And.intro (by show drawOK (opsAt Try.f112 _) _ = true; decide +kernel) ?_); conv => whnf)
        refine ⟨fun hq => ?_, fun hq => ?_⟩ <;> simp at hq
        · conv => whnf
          repeat ((first | refine ⟨gP_of ⟨by omega, by omega⟩, ?_⟩ | (refine ⟨A.length + 1, gP_of ⟨by omega, by omega⟩, ?_⟩) | (refine ⟨A.length, gP_of ⟨by omega, by omega⟩, ?_⟩)
                         | (refine ldo (v := .int .i64 n) (.head _) rfl hg1 ?_) | (refine ldo (v := .int .i64 y) (.head _) rfl hg2 ?_) | (refine sto (v := .int .i64 y) (o := 0 + (A.length + 1) * 1) (by rw [intsV_len]; simp) (.here _) ?_)
                         | (refine sto (v := .int .i64 n) (o := 0 + A.length * 1) (by rw [List.length_set, intsV_len]; simp <;> omega) (.here _) ?_) | refine And.intro (by show drawOK (opsAt Try.f112 _) _ = true; decide +kernel) ?_); conv => whnf)
          refine ⟨_, by simp, A, y :: B, ?_, heap1 ?_, rfl, by simp, ?_⟩
          · rw [show ((A.length + 1 : Nat) : Int) - 1 = A.length from by omega]
          · rw [intsV_set, intsV_set]
            simp [List.set_append]
          · intro z hz
            rcases List.mem_cons.1 hz with rfl | hz
            · exact hq
            · exact hB z hz
        · conv => whnf
          skip
          have hy : y < n := by
            have : y ≠ n := fun e => hd (by simp [e])
            omega
          refine ⟨b', (A ++ [y]) ++ n :: B, by simp; omega, rfl, ?_, fun a => ?_⟩
          · rw [List.pairwise_append] at hu ⊢
            refine ⟨hu.1, List.pairwise_cons.2 ⟨hB, hu.2.1⟩, fun u hu1 v hv => ?_⟩
            have hun : u < n := by
              rcases List.mem_append.1 hu1 with h | h
              · have := (List.pairwise_append.1 hu.1).2.2 u h y (by simp)
                omega
              · rw [List.mem_singleton.1 h]; exact hy
            rcases List.mem_cons.1 hv with rfl | hv
            · exact hun
            · have := hB v hv; omega
          · simp; constructor <;> intro h <;> rcases h with h | h | h | h <;> simp [h]
/-! ### the family of a sign, by the specification -/
theorem refHas' (f : List Int) (s : Int) (h : Heap) (hf : f.length ≤ 1048576) : QCall Try.prog 108 [.sl 1 none (ints f), .int .i64 s] h (.bool (f.contains s)) := (refHas f s (by unfold LMAX; omega)).wide h
theorem famL_mem {a s : Int} {alike : List (List Int)} : a ∈ famL s alike ↔ a = s ∨ ∃ f ∈ alike, f.contains s = true ∧ a ∈ f := by
  unfold famL
  rw [List.mem_cons, List.mem_flatMap]
  refine or_congr Iff.rfl ⟨?_, ?_⟩
  · rintro ⟨f, hf, ha⟩
    split at ha
    · rename_i h; exact ⟨f, hf, h, ha⟩
    · cases ha
  · rintro ⟨f, hf, h, ha⟩
    exact ⟨f, hf, by rw [if_pos h]; exact ha⟩
theorem famL_take {a s : Int} {alike : List (List Int)} {i : Nat} {f : List Int} (hx : alike[i]? = some f) : a ∈ famL s (alike.take (i + 1)) ↔ a ∈ famL s (alike.take i) ∨ (f.contains s = true ∧ a ∈ f) := by
  rw [List.take_add_one, hx]
  simp only [famL_mem, Option.toList_some, List.mem_append, List.mem_singleton]
  constructor
  · rintro (h | ⟨g, hg | rfl, h1, h2⟩)
    · exact .inl (.inl h)
    · exact .inl (.inr ⟨g, hg, h1, h2⟩)
    · exact .inr ⟨h1, h2⟩
  · rintro ((h | ⟨g, hg, h1, h2⟩) | ⟨h1, h2⟩)
    · exact .inl h
    · exact .inr ⟨g, .inl hg, h1, h2⟩
    · exact .inr ⟨f, .inr rfl, h1, h2⟩
def c81 : Cfg := ⟨[0, 1, 4, 5, 6, 7, 13, 30], [9], [], [], [], [9]⟩
theorem refFam (n s : Int) (alike : List (List Int)) (h1 : alike.length ≤ 40) (h2 : ∀ f ∈ alike, f.length ≤ 1048576) (hn : n ≤ 1048576) (h0 : 0 ≤ s ∧ s < n) (hb : alike.any (badF n) = false) :
    QCall Try.prog 81 [.sl 1 none (alike.map encL), .int .i64 s] [] (.sl 1 none (ints (famP s alike))) := by
  refine QCall.of (ACalls.frz (R := fun v h' => ∃ b, v = .osl b 0 (famP s alike).length 1 ∧ h' = [(b, .vec (intsV (famP s alike)))]) ?_ ?_)
  rotate_left
  · rintro v h1 ⟨b, rfl, rfl⟩
    refine ⟨b, _, [], [], _, .here _, .nil, FzV.row (pre := []) (post := []) (xs' := []) ?_ rfl (by simp) (fun x hx => ?_), VLe.refl _⟩
    · simp [ints_flat]
    · obtain ⟨y, _, rfl⟩ := List.mem_map.1 hx; rfl
  have hin := fam_in h0 hb
  refine fcalls (F := Try.f81) c81 rfl rfl rfl mixed rfl fun X => ?_
  conv => whnf
  intro b0
  conv => whnf
  refine sloop rfl mixed [0, 1, 5, 6] [] (fun m r h => ∃ (i : Nat) (b : Nat) (F : List Int), r = [(0, [], .sl 1 none (alike.map encL)), (1, [], .int .i64 s), (5, [], .osl b 0 F.length 1), (6, [], .int .i64 i)] ∧ h = [(b, .vec (intsV F))] ∧ m = alike.length - i ∧ i ≤ alike.length ∧ F.Pairwise (· < ·) ∧ (∀ a, a ∈ F ↔ a ∈ famL s (alike.take i))) ?_ ?_
  · conv => whnf
    exact ⟨_, 0, b0, [s], rfl, rfl, rfl, by omega, by simp, by simp [famL]⟩
  · rintro m r h ⟨i, b, F, rfl, rfl, rfl, hi, hu, hF⟩
    conv => whnf
    refine ⟨fun hf => ?_, fun hf => ?_⟩ <;> simp at hf
    · obtain ⟨f, hx⟩ := get_lt hf
      have hfl := h2 f (List.mem_of_getElem? hx)
      conv => whnf
      skip
      refine sloop rfl mixed [0, 1, 5, 6, 7] [] (fun m r h => ∃ (k : Nat) (b : Nat) (F : List Int), r = [(0, [], .sl 1 none (alike.map encL)), (1, [], .int .i64 s), (5, [], .osl b 0 F.length 1), (6, [], .int .i64 i), (7, [], .int .i64 k)] ∧ h = [(b, .vec (intsV F))] ∧ m = f.length - k ∧ k ≤ f.length ∧ F.Pairwise (· < ·) ∧ (∀ a, a ∈ F ↔ a ∈ famL s (alike.take i) ∨ (f.contains s = true ∧ a ∈ f.take k))) ?_ ?_
      · conv => whnf
        exact ⟨_, 0, b, F, rfl, rfl, rfl, by omega, hu, by simpa using hF⟩
      · rintro m r h ⟨k, b, F, rfl, rfl, rfl, hk, hu, hF⟩
        conv => whnf
        repeat ((first | refine ix (by assumption) ?_ | (refine gcallH (refHas' f s _ hfl) ?_)); conv => whnf)
        have hsub : ∀ a ∈ F, 0 ≤ a ∧ a < n := by
          intro a ha
          refine hin a (famL_mem.2 ?_)
          rcases (hF a).1 ha with h | ⟨h3, h4⟩
          · rcases famL_mem.1 h with h | ⟨g, hg, h3, h4⟩
            · exact .inl h
            · exact .inr ⟨g, List.mem_of_mem_take hg, h3, h4⟩
          · exact .inr ⟨f, List.mem_of_getElem? hx, h3, List.mem_of_mem_take h4⟩
        have hFl := up_bd (n := n) F 0 hu hsub
        refine ⟨fun hq => ?_, fun hq => ?_⟩ <;> simp at hq
        · obtain ⟨y, hy⟩ := get_lt hq.1
          have hcs : f.contains s = true := by simpa using hq.2
          conv => whnf
          repeat ((first | refine ix (by assumption) ?_ | (refine ACalls.mono ?_ (putW b F y (by omega) hu))); conv => whnf)
          rintro v h' ⟨b', r', rfl, rfl, hr1, hr2⟩
          conv => whnf
          repeat (refine ⟨gP_of ⟨by omega, by omega⟩, ?_⟩; conv => whnf)
          refine ⟨_, by omega, k + 1, b', r', rfl, rfl, rfl, by omega, hr1, fun a => ?_⟩
          rw [hr2 a, hF a, List.take_add_one, hy]
          simp only [Option.toList_some, List.mem_append, List.mem_singleton]
          constructor
          · rintro (h | h | ⟨h3, h4⟩)
            · exact .inr ⟨hcs, .inr h⟩
            · exact .inl h
            · exact .inr ⟨h3, .inl h4⟩
          · rintro (h | ⟨h3, h4 | h4⟩)
            · exact .inr (.inl h)
            · exact .inr (.inr ⟨h3, h4⟩)
            · exact .inl h4
        · conv => whnf
          repeat (refine ⟨gP_of ⟨by omega, by omega⟩, ?_⟩; conv => whnf)
          refine ⟨_, by omega, i + 1, b, F, rfl, rfl, rfl, by omega, hu, fun a => ?_⟩
          rw [hF a, famL_take hx]
          refine or_congr Iff.rfl ⟨fun ⟨h3, h4⟩ => ⟨h3, List.mem_of_mem_take h4⟩, fun ⟨h3, h4⟩ => ⟨h3, ?_⟩⟩
          have hkl : ¬ k < f.length := fun h => hq h (by simpa using h3)
          rw [List.take_of_length_le (by omega)]
          exact h4
    · rw [List.take_of_length_le (by omega)] at hF
      obtain ⟨p1, p2⟩ := famP_up s alike
      have hFe : F = famP s alike := up_ext hu p1 fun a => by rw [hF a, p2 a]
      subst hFe
      conv => whnf
      skip
      exact ⟨b, rfl, rfl⟩
end Go.Abs.Wall
set_option maxRecDepth 100000
set_option linter.unusedVariables false
namespace Go.Abs.Wall
open Go Go.Abs Go.Proofs Go.Proofs.Ytbgnfchlelhbeaa.Br
def c47 : Cfg := ⟨[0, 1, 2, 3, 4, 8, 9, 10, 11, 12, 13, 14, 15, 16, 17, 21, 30, 37, 46, 67, 73, 77, 92, 100, 102, 111, 128, 144], [], [16], [], [], []⟩
theorem refOf (l : Lst) (ms : List Mrk) (alike : List (List Int)) (layer : Int) (hl : LstFit l) (hm : ms.length ≤ 1048576) (h1 : alike.length ≤ 1048576) (h2 : ∀ f ∈ alike, f.length ≤ 1048576) :
    QCall Try.prog 47 [.agg (encLst l), .sl 4 none (ms.map encMrk), .sl 1 none (alike.map encL), .int .i64 layer] [] (encCE (ofM l ms alike layer)) := by
  have nT : ∀ e : Int, VLe (.tup [.nilS, .int .i64 e]) (.tup [.sl 3 none [], .int .i64 e]) := fun e => nilTup (by decide)
  have hN := VLe.nil (k := 1) (by decide)
  unfold ofM
  refine QCall.of ?_
  refine fcalls (F := Try.f47) c47 rfl rfl rfl mixed rfl fun X => ?_
  conv => whnf
  repeat (refine QCall.k0 (refCheck l hl) ?_; conv => whnf)
  refine ⟨fun hd => ?_, fun hd => ?_⟩ <;> simp at hd
  · rw [if_pos hd]
    conv => whnf
    skip
    exact nT _
  rw [if_neg (by simpa using hd)]
  have hls := lst_ok hd
  conv => whnf
  skip
  refine ⟨fun hg => ?_, fun hg => ?_⟩ <;> simp at hg
  · rw [if_pos (by omega)]
    conv => whnf
    skip
    exact nT _
  rw [if_neg (by omega)]
  obtain ⟨n, hn⟩ : ∃ n : Int, n = l.signs.length := ⟨_, rfl⟩
  have hn0 : 0 ≤ n := by omega
  have hn1 : n ≤ 1048576 := by omega
  conv => whnf
  rw [List.length_map]
  skip
  rw [← hn]
  refine sloop rfl mixed [1, 2, 3, 11, 12] [] (fun m r h => ∃ (i : Nat), r = [(1, [], .sl 4 none (ms.map encMrk)), (2, [], .sl 1 none (alike.map encL)), (3, [], .int .i64 layer), (11, [], .int .i64 n), (12, [], .int .i64 i)] ∧ h = [] ∧ m = alike.length - i ∧ i ≤ alike.length ∧ alike.any (badF n) = (alike.drop i).any (badF n)) ?_ ?_
  · conv => whnf
    exact ⟨_, 0, rfl, rfl, rfl, by omega, rfl⟩
  · rintro m r h ⟨i, rfl, rfl, rfl, hi, hb⟩
    conv => whnf
    refine ⟨fun hf => ?_, fun hf => ?_⟩ <;> simp at hf
    · obtain ⟨f, hx⟩ := get_lt hf
      have hfl := h2 f (List.mem_of_getElem? hx)
      rw [drop_cons hx, List.any_cons] at hb
      conv => whnf
      skip
      refine sloop rfl mixed [1, 2, 3, 11, 12, 13] [] (fun m r h => ∃ (k : Nat), r = [(1, [], .sl 4 none (ms.map encMrk)), (2, [], .sl 1 none (alike.map encL)), (3, [], .int .i64 layer), (11, [], .int .i64 n), (12, [], .int .i64 i), (13, [], .int .i64 k)] ∧ h = [] ∧ m = f.length - k ∧ k ≤ f.length ∧ badF n f = badF n (f.drop k)) ?_ ?_
      · conv => whnf
        exact ⟨_, 0, rfl, rfl, rfl, by omega, rfl⟩
      · rintro m r h ⟨k, rfl, rfl, rfl, hk, hbf⟩
        conv => whnf
        repeat (refine ix (by assumption) ?_; conv => whnf)
        refine ⟨fun hf2 => ?_, fun hf2 => ?_⟩ <;> simp at hf2
        · obtain ⟨y, hy⟩ := get_lt (l := f) (i := k) (by omega)
          rw [drop_cons hy] at hbf
          unfold badF at hbf
          rw [List.any_cons] at hbf
          conv => whnf
          repeat (refine ix (by assumption) ?_; conv => whnf)
          refine ⟨fun hq => ?_, fun hq => ?_⟩ <;> simp at hq
          · have hbad : (!inR n y) = true := by unfold inR; simp; omega
            rw [hbad, Bool.true_or] at hbf
            rw [if_pos (by rw [hb]; unfold badF; rw [hbf]; rfl)]
            conv => whnf
            skip
            exact nT _
          · have hbad : (!inR n y) = false := by unfold inR; simp; omega
            rw [hbad, Bool.false_or] at hbf
            conv => whnf
            repeat (refine ⟨gP_of ⟨by omega, by omega⟩, ?_⟩; conv => whnf)
            exact ⟨_, by omega, k + 1, rfl, rfl, rfl, by omega, hbf⟩
        · rw [drop_nil (by omega)] at hbf
          rw [hbf, show badF n [] = false from rfl, Bool.false_or] at hb
          conv => whnf
          repeat (refine ⟨gP_of ⟨by omega, by omega⟩, ?_⟩; conv => whnf)
          exact ⟨_, by omega, i + 1, rfl, rfl, rfl, by omega, hb⟩
    · rw [drop_nil (by omega), List.any_nil] at hb
      rw [if_neg (by rw [hb]; simp)]
      conv => whnf
      skip
      refine ⟨fun hq => ?_, fun hq => ?_⟩ <;> simp at hq
      · rw [if_pos (by omega)]
        conv => whnf
        skip
        exact nT _
      rw [if_neg (by omega)]
      conv => whnf
      skip
      refine tloop rfl mixed [1, 2, 3, 11, 14, 15] [(14, 3)] (fun m r h => ∃ (i : Nat) (q : Nat) (out : List Cel), r = [(1, [], .sl 4 none (ms.map encMrk)), (2, [], .sl 1 none (alike.map encL)), (3, [], .int .i64 layer), (11, [], .int .i64 n), (14, [], .sl 3 (some q) (out.map encCel)), (15, [], .int .i64 i)] ∧ h = [(q, .tok)] ∧ m = ms.length - i ∧ i ≤ ms.length ∧ out.length ≤ i ∧ CelsFit out ∧ ofGo n alike layer ms [] = ofGo n alike layer (ms.drop i) out) ?_ ?_
      · conv => whnf
        refine ⟨by decide, fun q => ?_⟩
        conv => whnf
        exact ⟨_, _, Turn.refl _ _, _, 0, q, [], rfl, rfl, rfl, by omega, by simp, ⟨by simp, by simp⟩, rfl⟩
      · rintro m r h ⟨i, q, out, rfl, rfl, rfl, hi, hol, hfit, ho⟩
        conv => whnf
        refine ⟨fun hf => ?_, fun hf => ?_⟩ <;> simp at hf
        · obtain ⟨x, hx⟩ := get_lt hf
          rw [drop_cons hx, ofGo] at ho
          conv => whnf
          repeat ((first | refine ix (by assumption) ?_ | refine ⟨_, _, Rem.here _, ⟨Nat.le_of_ble_eq_true rfl, rfl⟩, ?_⟩ | intro (nb : Nat)); conv => whnf)
          refine ⟨fun hz => ?_, fun hz => ?_⟩ <;> simp at hz
          · have e : markErr n x = 23 := by unfold markErr; rw [if_pos (by omega)]
            rw [e, if_pos (by decide)] at ho
            rw [ho]
            conv => whnf
            skip
            exact nT _
          conv => whnf
          skip
          refine ⟨fun hz2 => ?_, fun hz2 => ?_⟩ <;> simp at hz2
          · have e : markErr n x = 1 := by unfold markErr; rw [if_neg (by omega), if_pos (by omega)]
            rw [e, if_pos (by decide)] at ho
            rw [ho]
            conv => whnf
            skip
            exact nT _
          have e : markErr n x = 0 := by unfold markErr; rw [if_neg (by omega), if_neg (by omega)]
          rw [e, if_neg (by decide)] at ho
          have hcb := celM_bd (layer := layer) hn1 hb e
          have hfit2 : ∀ c ∈ out ++ [celM alike layer x], c.signs.length ≤ 1048576 := fun c hc => by
            rcases List.mem_append.1 hc with hc | hc
            · exact hfit.signs c hc
            · rw [List.mem_singleton.1 hc]; exact hcb
          conv => whnf
          repeat ((first | refine ⟨_, _, .here _, leOK, ?_⟩ | intro (nb : Nat)); conv => whnf)
          refine ⟨fun hs => ?_, fun hs => ?_⟩ <;> simp at hs
          · have hcel : celM alike layer x = ⟨x.mn, x.mx, []⟩ := by unfold celM; rw [if_pos hs]
            conv => whnf
            repeat ((first | refine ⟨gP_of ⟨by omega, by omega⟩, ?_⟩ | (refine ⟨(by rw [List.length_append, List.length_map]; show _ + 1 ≤ 4294967296; omega), fun q' => ⟨_, .there (.here _), ?_⟩⟩)
                           | refine ⟨_, _, .head _, rfl, ?_⟩ | refine ⟨_, _, .here _, leOK, ?_⟩); conv => whnf)
            refine ⟨_, _, (Turn.drop (.here _)).trans (Turn.weak (.cons (VLe.refl _) (.cons (VLe.refl _) (.cons (VLe.refl _) (.cons (VLe.refl _) (.cons (VLe.els (VssLe.snoc (y := encCel (celM alike layer x)) ?_)) (RLe.refl _))))))), _, by omega, i + 1, q', out ++ [celM alike layer x], by rw [List.map_append]; rfl, rfl, rfl, by omega, by simp; omega, ⟨by simp; omega, hfit2⟩, ho⟩
            rw [hcel]
            exact .cons (VLe.refl _) (.cons (VLe.refl _) (.cons hN .nil))
          conv => whnf
          skip
          refine ⟨fun hs2 => ?_, fun hs2 => ?_⟩
          · have hs2 : x.state = 0 ∨ (x.state = 3 ∧ layer = 0) := by simpa using hs2
            have hcel : celM alike layer x = ⟨1, 1, [x.sign]⟩ := by unfold celM; rw [if_neg (by omega), if_neg (by omega), if_pos hs2]
            conv => whnf
            repeat ((first | refine ⟨gP_of ⟨by omega, by omega⟩, ?_⟩ | (refine ⟨(by rw [List.length_append, List.length_map]; show _ + 1 ≤ 4294967296; omega), fun q' => ⟨_, .there (.here _), ?_⟩⟩)
                           | refine ⟨_, _, .head _, rfl, ?_⟩ | refine ⟨_, _, .here _, leOK, ?_⟩); conv => whnf)
            refine ⟨_, _, (Turn.drop (.here _)).trans (Turn.weak (.cons (VLe.refl _) (.cons (VLe.refl _) (.cons (VLe.refl _) (.cons (VLe.refl _) (.cons (VLe.els (VssLe.snoc (y := encCel (celM alike layer x)) ?_)) (RLe.refl _))))))), _, by omega, i + 1, q', out ++ [celM alike layer x], by rw [List.map_append]; rfl, rfl, rfl, by omega, by simp; omega, ⟨by simp; omega, hfit2⟩, ho⟩
            rw [hcel]
            exact VsLe.refl _
          have hs2 : ¬ (x.state = 0 ∨ (x.state = 3 ∧ layer = 0)) := fun h => by rw [show (decide (x.state = 0) || (decide (x.state = 3) && decide (layer = 0))) = true from by simpa using h] at hs2; cases hs2
          conv => whnf
          skip
          refine ⟨fun hs3 => ?_, fun hs3 => ?_⟩ <;> simp at hs3
          · have hcel : celM alike layer x = ⟨1, 1, famP x.sign alike⟩ := by unfold celM; rw [if_neg (by omega), if_pos hs3]
            have hfam := refFam n x.sign alike (by omega) h2 hn1 (by omega) hb
            conv => whnf
            repeat ((first | refine ⟨gP_of ⟨by omega, by omega⟩, ?_⟩ | refine QCall.k0 (hfam) ?_ | (refine ⟨(by rw [List.length_append, List.length_map]; show _ + 1 ≤ 4294967296; omega), fun q' => ⟨_, .there (.here _), ?_⟩⟩)
                           | refine ⟨_, _, .head _, rfl, ?_⟩ | refine ⟨_, _, .here _, leOK, ?_⟩); conv => whnf)
            refine ⟨_, _, (Turn.drop (.here _)).trans (Turn.weak (.cons (VLe.refl _) (.cons (VLe.refl _) (.cons (VLe.refl _) (.cons (VLe.refl _) (.cons (VLe.els (VssLe.snoc (y := encCel (celM alike layer x)) ?_)) (RLe.refl _))))))), _, by omega, i + 1, q', out ++ [celM alike layer x], by rw [List.map_append]; rfl, rfl, rfl, by omega, by simp; omega, ⟨by simp; omega, hfit2⟩, ho⟩
            rw [hcel]
            exact VsLe.refl _
          · have hcel : celM alike layer x = ⟨1, 1, []⟩ := by unfold celM; rw [if_neg (by omega), if_neg hs3, if_neg hs2]
            conv => whnf
            repeat ((first | refine ⟨gP_of ⟨by omega, by omega⟩, ?_⟩ | (refine ⟨(by rw [List.length_append, List.length_map]; show _ + 1 ≤ 4294967296; omega), fun q' => ⟨_, .there (.here _), ?_⟩⟩)
                           | refine ⟨_, _, .head _, rfl, ?_⟩); conv => whnf)
            refine ⟨_, _, (Turn.drop (.here _)).trans (Turn.weak (.cons (VLe.refl _) (.cons (VLe.refl _) (.cons (VLe.refl _) (.cons (VLe.refl _) (.cons (VLe.els (VssLe.snoc (y := encCel (celM alike layer x)) ?_)) (RLe.refl _))))))), _, by omega, i + 1, q', out ++ [celM alike layer x], by rw [List.map_append]; rfl, rfl, rfl, by omega, by simp; omega, ⟨by simp; omega, hfit2⟩, ho⟩
            rw [hcel]
            exact .cons (VLe.refl _) (.cons (VLe.refl _) (.cons hN .nil))
        · rw [drop_nil (by omega), ofGo] at ho
          rw [ho]
          conv => whnf
          repeat ((refine QCall.k0 (QCall.args (rightR out n hfit.l hfit.s) (.cons VLe.sl (VsLe.refl _))) ?_); conv => whnf)
          refine ⟨fun hr => ?_, fun hr => ?_⟩ <;> simp at hr
          · rw [if_neg (by simp [hr])]
            conv => whnf
            skip
            exact nT _
          · rw [if_pos hr]
            conv => whnf
            skip
            exact VLe.tup (.cons VLe.sl (VsLe.refl _))
end Go.Abs.Wall
set_option maxRecDepth 100000
set_option linter.unusedVariables false
namespace Go.Abs.Wall
open Go Go.Abs Go.Proofs Go.Proofs.Ytbgnfchlelhbeaa.Br
def c17 : Cfg := ⟨[0, 1, 2, 3, 5, 6, 7, 8, 9, 10, 14, 22], [], [], [], [(3, [0, 1, 2, 3, 4, 5, 6], [])], []⟩
theorem lawMakes (l : Lst) (cells : List Cel) (ms : List Mrk) (alike : List (List Int)) (layer : Int) (hl : LstFit l) (hc : CelsFit cells) (hm : ms.length ≤ 1048576) (h1 : alike.length ≤ 1048576) (h2 : ∀ f ∈ alike, f.length ≤ 1048576) :
    QCall Try.prog 17 [.agg (encLst l), .sl 3 none (cells.map encCel), .agg [.sl 4 none (ms.map encMrk), .sl 1 none (alike.map encL), .int .i64 layer]] [] (.bool true) := by
  refine QCall.of' ?_
  refine fcalls (F := Try.f17) c17 rfl rfl rfl mixed rfl fun X => ?_
  conv => whnf
  skip
  refine ⟨fun hd => ?_, fun hd => ?_⟩
  · conv => whnf
    repeat (refine QCall.k0 (works) ?_; conv => whnf)
  conv => whnf
  repeat ((first | refine gcall (wallCheck' l cells hl hc) ?_ | refine gcall (refCheckW' l cells hl hc) ?_ | refine And.intro (by show drawOK (opsAt Try.f17 _) _ = true; decide +kernel) ?_); conv => whnf)
  refine cF (by simp) ?_
  have hw := wallOf l ms alike layer hl hm h1 h2
  have hr := refOf l ms alike layer hl hm h1 h2
  have hf := ofM_fit (l := l) (ms := ms) (alike := alike) (layer := layer)
  obtain ⟨Z, hZ⟩ : ∃ Z, Z = ofM l ms alike layer := ⟨_, rfl⟩
  rw [← hZ] at hw hr hf
  conv => whnf
  repeat ((first | refine QCall.k0 (hw) ?_ | refine QCall.k0 (hr) ?_ | refine gcall (sameCells Z.1 Z.1 hf hf) ?_ | refine gcall (works) ?_); conv => whnf)
  exact congrArg AV.bool (by simp)
end Go.Abs.Wall

