/- What is proved: small laws for the walks of this seat, and contracts of its functions. No condition but those each theorem names. -/
import Derived.Test.YtoncocddopjjcaaGreatN13
import Derived.Test.YtoncocddopjjcaaGreatN17
import Derived.Test.YtoncocddopjjcaaGreatN8
set_option maxRecDepth 100000
set_option linter.unusedVariables false
set_option linter.unusedSimpArgs false
namespace Go.Abs.Wall.Lst
open Go Go.Abs Go.Proofs Go.Abs.Wall
/-! ### certificates -/
theorem pvGo_off {T : List Int} : ∀ {g : List (List Edg)} {k : Nat}, pvGo T g k = false → ∀ (i : Nat) es, g[i]? = some es → ∀ x ∈ es, pvBad T (k + i) x = false
  | [], k, _, i, es, h, x, hx => by simp at h
  | e :: t, k, hp, i, es, h, x, hx => by
    unfold pvGo at hp
    rw [Bool.or_eq_false_iff, List.any_eq_false] at hp
    cases i with
    | zero =>
      simp only [List.getElem?_cons_zero, Option.some.injEq] at h
      subst h
      have := hp.1 x hx
      simpa using this
    | succ i =>
      have := pvGo_off hp.2 i es (by simpa using h) x hx
      rw [show k + (i + 1) = k + 1 + i by omega]
      exact this
theorem pvGo_mk {T : List Int} : ∀ {g : List (List Edg)} {k : Nat}, (∀ (i : Nat) es, g[i]? = some es → ∀ x ∈ es, pvBad T (k + i) x = false) → pvGo T g k = false
  | [], k, _ => rfl
  | e :: t, k, h => by
    unfold pvGo
    rw [Bool.or_eq_false_iff, List.any_eq_false]
    refine ⟨fun x hx => by have := h 0 e rfl x hx; simpa using this, pvGo_mk fun i es he x hx => ?_⟩
    have := h (i + 1) es (by simpa using he) x hx
    rwa [show k + (i + 1) = k + 1 + i by omega] at this
theorem pvBad_off {T : List Int} {i : Nat} {x : Edg} : pvBad T i x = false ↔ (T.getD x.to.toNat 0 ≠ -1 → T.getD i 0 ≠ -1 ∧ T.getD i 0 ≤ T.getD x.to.toNat 0 + x.cost) := by
  unfold pvBad
  rw [Bool.and_eq_false_iff, Bool.or_eq_false_iff, Bool.not_eq_false', decide_eq_true_eq, decide_eq_false_iff_not, decide_eq_false_iff_not]
  constructor
  · rintro (h | ⟨h1, h2⟩) h3
    · exact absurd h h3
    · exact ⟨h1, by omega⟩
  · intro h
    by_cases h3 : T.getD x.to.toNat 0 = -1
    · exact .inl h3
    · have := h h3
      exact .inr ⟨this.1, by omega⟩
/-- a way that begins with an edge and goes on with a way from its end -/
theorem rdV_split {g : List (List Edg)} (hg : GOK g) {i : Nat} (hi : i < g.length) {p : Pth} (hp : p ∈ rdV g i) :
    ∃ es x q, g[i]? = some es ∧ x ∈ es ∧ q ∈ rdV g x.to.toNat ∧ p = (x.cost + q.1, x :: q.2) := by
  obtain ⟨es, hes⟩ := get_lt hi
  have hE := hg.edge i es hes
  rw [rdV_cons hes hE, List.mem_map] at hp
  obtain ⟨w, hw, rfl⟩ := hp
  obtain ⟨t, ht⟩ := List.mem_iff_getElem?.1 hw
  obtain ⟨_, l, h2, h3⟩ := mgW_cand ht
  unfold clsG at h2
  rw [List.getElem?_map] at h2
  cases hx : es[w.edge]? with
  | none => rw [hx] at h2; cases h2
  | some x =>
    rw [hx] at h2
    cases h2
    unfold extC at h3
    rw [List.getElem?_map] at h3
    cases hq : (rdV g x.to.toNat)[w.rank]? with
    | none => rw [hq] at h3; cases h3
    | some q =>
      rw [hq] at h3
      have h3 : x.cost + q.1 = w.cost := by simpa using h3
      refine ⟨es, x, q, hes, List.mem_of_getElem? hx, List.mem_of_getElem? hq, ?_⟩
      unfold mkR
      rw [hx]
      show (w.cost, x :: ((rdV g x.to.toNat).getD w.rank (0, [])).2) = _
      rw [List.getD_eq_getElem?_getD, hq, h3]
      rfl
/-- a table that proves a bound holds for all ways -/
theorem proves_sound {g : List (List Edg)} (hg : GOK g) {T : List Int} {c : Int} (h : provesG g T c = true) : ∀ p ∈ rdV g 0, c ≤ p.1 := by
  unfold provesG at h
  split at h
  · cases h
  split at h
  · cases h
  rename_i h1 h2
  have h1 : pvForm g.length T = false := by simpa using h1
  have h2 : pvGo T g 0 = false := by simpa using h2
  unfold pvForm at h1
  simp only [Bool.or_eq_false_iff, Bool.not_eq_false', decide_eq_true_eq, decide_eq_false_iff_not] at h1
  obtain ⟨⟨hl, hz⟩, _⟩ := h1
  have key : ∀ (d i : Nat), i + d = g.length → ∀ p ∈ rdV g i, T.getD i 0 ≠ -1 ∧ T.getD i 0 ≤ p.1 := by
    intro d
    induction d using Nat.strongRecOn with
    | _ d ih =>
      intro i hi p hp
      by_cases h : i < g.length
      · obtain ⟨es, x, q, hes, hx, hq, rfl⟩ := rdV_split hg h hp
        have ho := hg.edge i es hes x hx
        have h5 := ho.lo; have h6 := ho.hi
        have hb := pvBad_off.1 (by simpa using pvGo_off h2 i es hes x hx)
        obtain ⟨h7, h8⟩ := ih (g.length - x.to.toNat) (by omega) x.to.toNat (by omega) q hq
        obtain ⟨h9, h10⟩ := hb h7
        exact ⟨h9, by show _ ≤ x.cost + q.1; omega⟩
      · have : i = g.length := by omega
        subst this
        rw [rdV_end] at hp
        simp at hp
        subst hp
        rw [hz]
        exact ⟨by decide, Int.le_refl _⟩
  intro p hp
  obtain ⟨h3, h4⟩ := key g.length 0 (by omega) p hp
  rw [Bool.or_eq_true, decide_eq_true_eq, decide_eq_true_eq] at h
  rcases h with h | h
  · exact absurd h h3
  · omega
theorem restT_getD {g : List (List Edg)} {i : Nat} (hi : i ≤ g.length) : (restT g).getD i 0 = restV g i := by
  rw [List.getD_eq_getElem?_getD, restT_get g i hi]; rfl
theorem restV_ge {g : List (List Edg)} (hg : GOK g) {i : Nat} (hi : i ≤ g.length) : -1 ≤ restV g i := (hg.rest i hi).1
/-- the table of the least costs proves them -/
theorem proves_rest {g : List (List Edg)} (hg : GOK g) (c : Int) : provesG g (restT g) c = (decide (restV g 0 = -1) || decide (c ≤ restV g 0)) := by
  have hf : pvForm g.length (restT g) = false := by
    unfold pvForm
    rw [restT_len, restT_getD (Nat.le_refl _), restV_end]
    have : -1 ≤ minL (restT g) := by
      have hm := minL_mem (T := restT g) (by intro e; have := restT_len g; rw [e] at this; simp at this)
      obtain ⟨i, hi⟩ := List.mem_iff_getElem?.1 hm
      have hlt := (List.getElem?_eq_some_iff.1 hi).1
      rw [restT_len] at hlt
      rw [restT_get g i (by omega)] at hi
      have := restV_ge hg (i := i) (by omega)
      rw [← Option.some.inj hi]
      exact this
    simp
    omega
  have hgo : pvGo (restT g) g 0 = false := by
    refine pvGo_mk fun i es hes x hx => ?_
    rw [Nat.zero_add, pvBad_off]
    have hi := (List.getElem?_eq_some_iff.1 hes).1
    have hE := hg.edge i es hes
    have hto : ∀ x ∈ es, (restT (g.drop (i + 1))).getD (x.word.uses.length - 1) 0 = restV g x.to.toNat := by
      intro x hx
      have ho := hE x hx
      have h1 := ho.lo; have h2 := ho.hi; have h3 := ho.to
      have h4 := restT_get (g.drop (i + 1)) (x.word.uses.length - 1) (by rw [List.length_drop]; omega)
      rw [restV_drop, show i + 1 + (x.word.uses.length - 1) = x.to.toNat by omega] at h4
      rw [List.getD_eq_getElem?_getD, h4]
      rfl
    have hx2 := (hE x hx).hi
    rw [restT_getD (by omega), restT_getD (by omega), restV_consM hes]
    intro h
    have := (foldE_spec (restT (g.drop (i + 1))) (fun x => restV g x.to.toNat) es (-1) hto (fun y hy => ⟨restV_ge hg (by have := (hE y hy).hi; omega), (hE y hy).cost.1⟩) (by omega)).2.2 x hx h
    exact ⟨this.1, by have := this.2; omega⟩
  unfold provesG
  rw [hf, hgo, restT_getD (Nat.zero_le _)]
  rfl
/-- the first reading costs what the table says -/
theorem best_rest {g : List (List Edg)} (hg : GOK g) {p : Pth} (hp : (rdV g 0)[0]? = some p) : restV g 0 = p.1 := by
  have h := rest_first hg g.length 0 (by omega)
  have h2 := wayAt_rd hg (i := 0) (by omega) 0
  rw [hp] at h2
  cases hw : (wayAt g 0)[0]? with
  | none => rw [hw] at h2; cases h2
  | some w =>
    rw [hw] at h h2
    rw [h]
    simpa using h2.symm
theorem best_split {H : Hou} {line : List Int} (h : listErr H line 1 = 0) : growErr H line = 0 ∧ ∃ p, (rdV (graphM H line) 0)[0]? = some p ∧ (bestL H line).cost = p.1 := by
  have h' := h
  unfold listErr at h
  split at h
  · rename_i h1; exact absurd h h1
  rename_i h1
  have h0 : growErr H line = 0 := by simpa using h1
  refine ⟨h0, ?_⟩
  rw [if_pos (by decide)] at h
  split at h
  · cases h
  rename_i h2
  cases hr : rdV (graphM H line) 0 with
  | nil => exact absurd hr h2
  | cons p l =>
    refine ⟨p, rfl, ?_⟩
    unfold bestL listL
    rw [if_pos h']
    unfold rdsOf
    rw [hr]
    rfl
theorem list_grow {H : Hou} {line : List Int} {m : Int} (h : growErr H line ≠ 0) : listErr H line m = growErr H line := by unfold listErr; rw [if_pos h]
def c7 : Cfg := ⟨[0, 1, 2, 3, 6, 7, 8, 9, 10, 11, 12, 13, 14, 15, 16, 21, 40, 47, 83, 110], [], [7], [], [(12, [0, 1, 2, 3, 4, 5, 6, 7, 8, 9, 10, 11, 12, 13], [])], []⟩
theorem readCertL (H : Hou) (line : List Int) (ps : List (Int × Int)) (c : Int) (hf : HouFit H) (hl : line.length ≤ 1048576) (hps : ps.length ≤ 1048576) : QCall Tryz.prog 7 [.agg (encCas ⟨H, line⟩), .sl 2 none (ps.map encPair), .int .i64 c] [] (.bool true) := by
  obtain ⟨hpl, hph⟩ := proveL_ok H line
  refine QCall.of' ?_
  refine fcalls (F := Tryz.f7) c7 rfl rfl rfl mixed rfl fun X => ?_
  conv => whnf
  repeat (refine QCall.k0 (largeW H line) ?_; conv => whnf)
  refine ⟨fun hq => ?_, fun hq => ?_⟩
  · conv => whnf
    repeat (refine QCall.k0 (worksW) ?_; conv => whnf)
    done
  conv => whnf
  repeat ((first | refine QCall.k0 (bestW H line hf hl) ?_ | refine QCall.k0 (ProveW H line hf hl) ?_ | refine ⟨_, _, Rem.here _, ⟨Nat.le_of_ble_eq_true rfl, rfl⟩, ?_⟩
                 | intro (nb : Nat)); conv => whnf)
  have hch := chM_has ps hph
  have hcl := chM_len (proveL H line) ps
  refine ⟨fun h0 => ?_, fun h0 => ?_⟩ <;> simp at h0
  · conv => whnf
    repeat (refine gcall (worksW) ?_; conv => whnf)
    exact congrArg AV.bool (by rw [list_grow h0]; simp [h0])
  obtain ⟨-, -, hg⟩ := growOK h0
  have hpr : proveL H line = restT (graphM H line) := by unfold proveL; rw [if_pos h0]
  have hpm : ∀ c, provesM H line (proveL H line) c = (decide (restV (graphM H line) 0 = -1) || decide (c ≤ restV (graphM H line) 0)) := fun c => by unfold provesM; rw [if_pos h0, hpr]; exact proves_rest hg c
  conv => whnf
  skip
  refine ⟨fun h1 => ?_, fun h1 => ?_⟩ <;> simp at h1
  · obtain ⟨-, p, hp, hbc⟩ := best_split h1
    have hrp := best_rest hg hp
    have hpb := rdV_bound hg (graphM H line).length 0 (by omega) p (List.mem_of_getElem? hp)
    have hgf := hg.few
    have hb1 : provesM H line (proveL H line) (bestL H line).cost = true := by rw [hpm, hrp, hbc]; simp
    have hb2 : provesM H line (proveL H line) ((bestL H line).cost + 1) = false := by rw [hpm, hrp, hbc]; simp; omega
    have hsd : provesM H line (chM (proveL H line) ps) c = true → c ≤ (bestL H line).cost := fun h => by
      unfold provesM at h
      rw [if_pos h0] at h
      rw [hbc]
      exact proves_sound hg h p (List.mem_of_getElem? hp)
    conv => whnf
    repeat ((first | refine ⟨gP_of ⟨by omega, by omega⟩, ?_⟩ | refine QCall.k0 (ProvesW H line (proveL H line) (bestL H line).cost hf hl (by omega) hph) ?_ | refine QCall.k0 (ProvesW H line (proveL H line) ((bestL H line).cost + 1) hf hl (by omega) hph) ?_); conv => whnf)
    refine cF (by rw [hb1, hb2, h0]; rfl) ?_
    have hfn : (!decide (growErr H line = 0) || provesM H line (chM (proveL H line) ps) c && decide (listErr H line 1 = 0) && decide ((bestL H line).cost < c)) = false := by
      cases hv : provesM H line (chM (proveL H line) ps) c with
      | false => simp [h0]
      | true =>
        have := hsd hv
        simp [h0]
        omega
    conv => whnf
    repeat ((first | refine gcall (changedW (proveL H line) ps (by omega) hps) ?_ | refine gcall (ProvesW H line (chM (proveL H line) ps) c hf hl (by omega) hch) ?_ | refine And.intro (by show drawOK (opsAt Tryz.f7 _) _ = true; decide +kernel) ?_); conv => whnf)
    refine cF hfn ?_
    conv => whnf
    repeat (refine QCall.k0 (worksW) ?_; conv => whnf)
  · conv => whnf
    repeat ((first | refine gcall (changedW (proveL H line) ps (by omega) hps) ?_ | refine gcall (ProvesW H line (chM (proveL H line) ps) c hf hl (by omega) hch) ?_ | refine And.intro (by show drawOK (opsAt Tryz.f7 _) _ = true; decide +kernel) ?_); conv => whnf)
    refine cF (by simp [h0, h1]) ?_
    conv => whnf
    repeat (refine QCall.k0 (worksW) ?_; conv => whnf)
end Go.Abs.Wall.Lst
set_option maxRecDepth 100000
set_option linter.unusedVariables false
namespace Go.Abs.Wall
open Go Go.Abs Go.Proofs Go.Proofs.YtoncocddopjjcaaGreat.Br
theorem argPairs {x : AV} (h : ArgSh Tryz.prog B20 60 x) : ∃ l : List (Int × Int), x = .sl 2 none (l.map encPair) ∧ l.length ≤ B20 := by
  obtain ⟨xs, h, hx⟩ := h
  have hx : xs = [x] := hx
  obtain ⟨l, h1, h2, _⟩ := sh_list (enc := encPair) h rfl fun y hy => shPair hy
  rw [hx] at h1
  cases h1
  exact ⟨l, rfl, h2⟩
end Go.Abs.Wall

