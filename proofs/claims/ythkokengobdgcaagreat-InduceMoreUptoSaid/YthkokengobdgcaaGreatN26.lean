/- What is proved: small laws for the walks of this seat, and contracts of its functions. No condition but those each theorem names. -/
import Derived.Test.YthkokengobdgcaaGreatN25
set_option maxRecDepth 100000
set_option maxHeartbeats 2000000
set_option linter.unusedVariables false
set_option linter.unusedSimpArgs false
namespace Go.Abs.Wall.Lst
open Go Go.Abs Go.Proofs Go.Abs.Wall Go.Proofs.YthkokengobdgcaaGreat.Br
/-! ### Check -/
def chkOK (C : Cor) (keep : List Int) (l : List Nd) : Bool := l.all fun x => !decide (needsM C (memW keep) x.entry = []) && decide (needsM C (memW keep) x.entry = x.lines)
def ntr (l : List Nd) : List Int := l.map (·.entry)
def chkErr (H : Hou) (lines : List (List Int)) (l : List Nd) : Int :=
  if begErr H lines (ntr l) ≠ 0 then begErr H lines (ntr l) else if allB (corM H lines) (memW (ntr l)) = true then (if chkOK (corM H lines) (ntr l) l = true then 0 else 90) else 90
structure NdsFit (l : List Nd) : Prop where
  many : l.length ≤ 1048576
  each : ∀ x ∈ l, NdFit x
theorem argNds {x : AV} (h : ArgSh Tryz.prog B20 37 x) : ∃ l : List Nd, x = .sl 2 none (l.map encNd) ∧ NdsFit l := by
  obtain ⟨xs, h, hx⟩ := h
  have hx : xs = [x] := hx
  obtain ⟨l, h1, h2, h3⟩ := sh_list (enc := encNd) (Fit := NdFit) h rfl fun y hy => by
    obtain ⟨ps, rfl, hp⟩ := sh_struct hy rfl
    obtain ⟨x, y, rfl, h1, h2⟩ := sh2 hp
    obtain ⟨a, rfl, ha⟩ := shInt h1
    obtain ⟨b, rfl, hb, _⟩ := shInts h2
    exact ⟨⟨a, b⟩, rfl, ⟨by unfold B20 at hb; exact hb⟩⟩
  rw [hx] at h1
  cases h1
  exact ⟨l, rfl, ⟨by unfold B20 at h2; omega, h3⟩⟩
def c69 : Cfg := ⟨[0, 2, 4, 5, 6, 7, 8], [], [4], [], [], []⟩
def c42 : Cfg := ⟨[0, 2, 3, 4, 8], [], [], [], [], []⟩
def c40 : Cfg := ⟨[0, 1, 2, 3, 6, 7, 8, 9, 10, 12, 13, 24, 31, 32, 33, 34, 35, 52], [], [12], [], [], []⟩
def c41 : Cfg := ⟨[0, 1, 2, 3, 6, 7, 8, 9, 10, 11, 12, 17, 22, 39, 46, 50, 73], [], [], [], [], []⟩
def c102 : Cfg := ⟨[0, 1, 4, 5, 10, 14, 25], [], [], [], [(6, [0, 1, 2, 3, 4, 5, 6, 7, 8], [])], []⟩
def c11 : Cfg := ⟨[0, 1, 2, 3, 6, 14], [], [], [], [(3, [0, 1, 2, 3, 4, 5, 6, 7, 8, 9, 10, 11, 12], [])], []⟩
theorem entriesW (l : List Nd) (hl : l.length ≤ 1048576) : QCall Tryz.prog 69 [.sl 2 none (l.map encNd)] [] (.sl 1 none (ints (ntr l))) := by
  refine QCall.of ?_
  refine fcalls (F := Tryz.f69) c69 rfl rfl rfl mixed rfl fun X => ?_
  conv => whnf
  refine tloop rfl mixed [2, 5, 6, 7] [] (fun m r h => ∃ (i : Nat) (ov : AV) (oh : Heap), r = [(2, [], ov), (5, [], .sl 2 none (l.map encNd)), (6, [], .int .i64 (l.map encNd).length), (7, [], .int .i64 i)] ∧ h = oh ∧ m = l.length - i ∧ i ≤ l.length ∧ Out 1 (fun n => [AV.int .i64 n]) (ntr (l.take i)) ov oh) ?_ ?_
  · conv => whnf
    exact ⟨_, _, Turn.refl _ _, _, 0, .nilS, [], rfl, rfl, rfl, by omega, .inl ⟨rfl, rfl, rfl⟩⟩
  · rintro m r h' ⟨i, ov, oh, rfl, rfl, rfl, hi, ho⟩
    have hol : (ntr (l.take i)).length ≤ 1048576 := by unfold ntr; rw [List.length_map, List.length_take]; omega
    conv => whnf
    refine ⟨fun hi2 => ?_, fun hi2 => ?_⟩ <;> simp at hi2
    · obtain ⟨x, hx⟩ := get_lt hi2
      have hsn : ntr (l.take (i + 1)) = ntr (l.take i) ++ [x.entry] := by rw [take_snoc hx]; unfold ntr; rw [List.map_append]; rfl
      rcases ho with ⟨he, rfl, rfl⟩ | ⟨q, rfl, rfl⟩
      all_goals
        conv => whnf
        repeat ((first | refine ⟨gP_of ⟨by omega, by omega⟩, ?_⟩ | refine ix (by assumption) ?_ | (intro (b9 : Nat)) | (refine ⟨Nat.le_of_ble_eq_true rfl, fun q' => ?_⟩) | (refine ⟨(by rw [List.length_append, List.length_map]; simp at hol ⊢; unfold AMAX; omega), fun q' => ⟨_, .here _, ?_⟩⟩)
                       | refine ⟨_, _, Rem.here _, ⟨Nat.le_of_ble_eq_true rfl, rfl⟩, ?_⟩); conv => whnf)
        refine ⟨_, _, Turn.refl _ _, _, (by omega), i + 1, _, [(q', .tok)], rfl, rfl, rfl, by omega, .inr ⟨q', ?_, rfl⟩⟩
        rw [hsn, List.map_append]
        first | done | rfl | (rw [he]; done) | (rw [he]; rfl)
    · rw [List.take_of_length_le hi2] at ho
      conv => whnf
      skip
      exact ho.le (by decide)
theorem lentriesW (l : List Nd) (hl : l.length ≤ 1048576) : QCall Tryz.prog 42 [.sl 2 none (l.map encNd)] [] (.sl 1 none (ints (ntr l))) := by
  refine QCall.of ?_
  refine fcalls (F := Tryz.f42) c42 rfl rfl rfl mixed rfl fun X => ?_
  conv => whnf
  skip
  refine tloop rfl mixed [0, 3, 4] [] (fun m r h => ∃ (i : Nat) (ov : AV) (oh : Heap), r = [(0, [], .sl 2 none (l.map encNd)), (3, [], ov), (4, [], .int .i64 i)] ∧ h = oh ∧ m = l.length - i ∧ i ≤ l.length ∧ Out 1 (fun n => [AV.int .i64 n]) (ntr (l.take i)) ov oh) ?_ ?_
  · conv => whnf
    exact ⟨_, _, Turn.refl _ _, _, 0, .nilS, [], rfl, rfl, rfl, by omega, .inl ⟨rfl, rfl, rfl⟩⟩
  · rintro m r h' ⟨i, ov, oh, rfl, rfl, rfl, hi, ho⟩
    have hol : (ntr (l.take i)).length ≤ 1048576 := by unfold ntr; rw [List.length_map, List.length_take]; omega
    conv => whnf
    skip
    refine ⟨fun hi2 => ?_, fun hi2 => ?_⟩ <;> simp at hi2
    · obtain ⟨x, hx⟩ := get_lt hi2
      have hsn : ntr (l.take (i + 1)) = ntr (l.take i) ++ [x.entry] := by rw [take_snoc hx]; unfold ntr; rw [List.map_append]; rfl
      rcases ho with ⟨he, rfl, rfl⟩ | ⟨q, rfl, rfl⟩
      all_goals
        conv => whnf
        repeat ((first | refine ⟨gP_of ⟨by omega, by omega⟩, ?_⟩ | refine ix (by assumption) ?_ | (refine ⟨Nat.le_of_ble_eq_true rfl, fun q' => ?_⟩) | (refine ⟨(by rw [List.length_append, List.length_map]; simp at hol ⊢; unfold AMAX; omega), fun q' => ⟨_, .here _, ?_⟩⟩)); conv => whnf)
        refine ⟨_, _, Turn.refl _ _, _, (by omega), i + 1, _, [(q', .tok)], rfl, rfl, rfl, by omega, .inr ⟨q', ?_, rfl⟩⟩
        rw [hsn, List.map_append]
        first | done | rfl | (rw [he]; done) | (rw [he]; rfl)
    · rw [List.take_of_length_le hi2] at ho
      conv => whnf
      skip
      exact ho.le (by decide)
theorem refSameI10 (a b : List Int) (ha : a.length ≤ LMAX) (hb : b.length ≤ LMAX) : QCall Tryz.prog 102 [.sl 1 none (ints a), .sl 1 none (ints b)] [] (.bool (decide (a = b))) := by
  unfold LMAX at ha hb
  refine fcalls (F := Tryz.f102) c102 rfl rfl rfl mixed rfl fun X => ?_
  conv => whnf
  skip
  refine ⟨fun hc => ?_, fun hc => ?_⟩ <;> simp at hc
  · conv => whnf
    refine ⟨congrArg AV.bool (decide_eq_false fun e => ?_).symm, rfl⟩
    rw [e] at hc
    omega
  conv => whnf
  skip
  refine sloop rfl mixed [0, 1, 5] [] (fun m r h => ∃ (i : Nat), r = [(0, [], .sl 1 none (ints a)), (1, [], .sl 1 none (ints b)), (5, [], .int .i64 i)] ∧ h = [] ∧ m = a.length - i ∧ i ≤ a.length ∧ decide (a = b) = decide (a.drop i = b.drop i)) ?_ ?_
  · conv => whnf
    exact ⟨_, 0, rfl, rfl, rfl, by omega, rfl⟩
  · rintro m r h ⟨i, rfl, rfl, rfl, hi, hg⟩
    conv => whnf
    skip
    refine ⟨fun hi2 => ?_, fun hi2 => ?_⟩ <;> simp at hi2
    · obtain ⟨x, hx⟩ := get_lt hi2
      obtain ⟨y, hy⟩ := get_lt (l := b) (i := i) (by omega)
      rw [drop_cons hx, drop_cons hy] at hg
      conv => whnf
      repeat ((first | refine ix (by assumption) ?_ | refine And.intro (by show drawOK (opsAt Tryz.f102 _) _ = true; decide +kernel) ?_); conv => whnf)
      refine ⟨fun hq => ?_, fun hq => ?_⟩ <;> simp at hq
      · conv => whnf
        skip
        refine ⟨congrArg AV.bool ?_, rfl⟩
        rw [hg]
        symm
        rw [decide_eq_false_iff_not]
        intro h
        exact hq (List.cons.inj h).1
      · subst hq
        conv => whnf
        repeat (refine ⟨gP_of ⟨by omega, by omega⟩, ?_⟩; conv => whnf)
        refine ⟨_, by omega, i + 1, rfl, rfl, rfl, by omega, ?_⟩
        rw [hg, decide_eq_decide, List.cons.injEq]
        simp
    · rw [drop_nil hi2, drop_nil (by omega)] at hg
      conv => whnf
      skip
      exact ⟨congrArg AV.bool (by rw [hg]; rfl), rfl⟩
theorem ntr_len (l : List Nd) : (ntr l).length = l.length := by unfold ntr; rw [List.length_map]
theorem CheckW (H : Hou) (lines : List (List Int)) (l : List Nd) (hf : CorFit H lines) (hl : NdsFit l) : QCall Tryz.prog 40 [.agg (encHou H), .sl 1 none (lines.map encIs), .sl 2 none (l.map encNd)] [] (.int .i64 (chkErr H lines l)) := by
  have hll := hl.many
  obtain ⟨keep, hkeep⟩ : ∃ k, k = ntr l := ⟨_, rfl⟩
  have hkl : keep.length ≤ 1048576 := by rw [hkeep, ntr_len]; exact hll
  have hen := entriesW l hll
  rw [← hkeep] at hen
  have hb := beginA H lines keep hf hkl
  obtain ⟨er, her⟩ : ∃ e, e = chkErr H lines l := ⟨_, rfl⟩
  rw [← her]
  unfold chkErr at her
  rw [← hkeep] at her
  refine fcalls (F := Tryz.f40) c40 rfl rfl rfl mixed rfl fun X => ?_
  conv => whnf
  repeat ((first | refine QCall.k0 (hen) ?_ | refine QCall.k0 (hb) ?_); conv => whnf)
  refine ⟨fun h0 => ?_, fun h0 => ?_⟩ <;> simp at h0
  · rw [if_pos h0] at her
    conv => whnf
    skip
    exact ⟨by rw [her], rfl⟩
  rw [if_neg (by omega)] at her
  obtain ⟨h1, h2⟩ := begErr_zero h0
  have hv : begV H lines keep = corP H lines := by rw [begV, if_pos h0]
  have hcp := corP_fit h1
  have hok := cor_ok h1
  have hcl : (corP H lines).length ≤ 1048576 := by rw [corP_len]; exact hf.lines
  have hall := allA hcp hcl (chosenF keep (by unfold LMAX; omega))
  rw [show allB (corP H lines) (memW keep) = allB (corM H lines) (memW keep) from allB_cpt hok.links _] at hall
  have hnd : ∀ e, QCall Tryz.prog 61 [encCor (corP H lines), .fn 133 [.iptr [.sl 1 none (ints keep)]], .int .i64 e] [] (.sl 1 none (ints (needsM (corM H lines) (memW keep) e))) := by
    intro e
    have := needsA hcp hcl (chosenF keep (by unfold LMAX; omega)) e
    rwa [show needsM (corP H lines) (memW keep) e = needsM (corM H lines) (memW keep) e from needsM_cpt hok.links _ _] at this
  obtain ⟨C, hC⟩ : ∃ C, C = corM H lines := ⟨_, rfl⟩
  obtain ⟨P, hP⟩ : ∃ P, P = corP H lines := ⟨_, rfl⟩
  have hCl : C.length ≤ 1048576 := by rw [hC, cor_len]; exact hf.lines
  rw [← hC, ← hP] at hall
  rw [← hP, ← hC] at hnd
  rw [← hC] at her
  rw [hv, ← hP]
  conv => whnf
  repeat ((first | refine QCall.k0 (chosenA keep) ?_ | refine QCall.k0 (hall) ?_); conv => whnf)
  refine ⟨fun h3 => ?_, fun h3 => ?_⟩
  · have h3 : (!allB C (memW keep)) = true := h3
    rw [Bool.not_eq_true'] at h3
    rw [if_neg (by rw [h3]; decide)] at her
    conv => whnf
    skip
    exact ⟨by rw [her], rfl⟩
  have h3 : (!allB C (memW keep)) = false := h3
  rw [Bool.not_eq_false'] at h3
  rw [if_pos h3] at her
  conv => whnf
  skip
  refine sloop rfl mixed [8, 10, 32, 33, 34] [] (fun m r h => ∃ (i : Nat), r = [(8, [], encCor P), (10, [], .fn 133 [.iptr [.sl 1 none (ints keep)]]), (32, [], .sl 2 none (l.map encNd)), (33, [], .int .i64 (l.map encNd).length), (34, [], .int .i64 i)] ∧ h = [] ∧ m = l.length - i ∧ i ≤ l.length ∧ chkOK C keep l = chkOK C keep (l.drop i)) ?_ ?_
  · conv => whnf
    exact ⟨_, 0, rfl, rfl, rfl, by omega, rfl⟩
  · rintro m r h ⟨i, rfl, rfl, rfl, hi, hg⟩
    conv => whnf
    refine ⟨fun hi2 => ?_, fun hi2 => ?_⟩ <;> simp at hi2
    · obtain ⟨x, hx⟩ := get_lt hi2
      have hxf := (hl.each x (List.mem_of_getElem? hx)).lines
      have hne := hnd x.entry
      obtain ⟨L, hL⟩ : ∃ L, L = needsM C (memW keep) x.entry := ⟨_, rfl⟩
      have hLl : L.length ≤ 1048576 := by rw [hL]; have := needsM_len C (memW keep) x.entry; omega
      rw [drop_cons hx] at hg
      have hg : chkOK C keep l = ((!decide (L = []) && decide (L = x.lines)) && chkOK C keep (l.drop (i + 1))) := by rw [hg, hL]; rfl
      rw [← hL] at hne
      have hcond : (decide (((ints L).length : Int) = 0) || !decide (L = x.lines)) = !(!decide (L = []) && decide (L = x.lines)) := by
        have : decide (((ints L).length : Int) = 0) = decide (L = []) := by rw [ints_length, decide_eq_decide]; cases L <;> simp; omega
        rw [this, Bool.not_and, Bool.not_not]
      conv => whnf
      repeat ((first | refine ix (by assumption) ?_ | (intro (b9 : Nat)) | refine QCall.k0 (hne) ?_ | refine gcall (equalI L x.lines (by unfold LMAX; omega) (by unfold LMAX; omega)) ?_
                     | refine ⟨_, _, Rem.here _, ⟨Nat.le_of_ble_eq_true rfl, rfl⟩, ?_⟩); conv => whnf)
      refine ⟨fun hq => ?_, fun hq => ?_⟩
      · have hq := hcond.symm.trans hq
        rw [Bool.not_eq_true'] at hq
        rw [hq, Bool.false_and] at hg
        rw [if_neg (by rw [hg]; decide)] at her
        conv => whnf
        skip
        exact ⟨by rw [her], rfl⟩
      · have hq := hcond.symm.trans hq
        rw [Bool.not_eq_false'] at hq
        rw [hq, Bool.true_and] at hg
        conv => whnf
        repeat (refine ⟨gP_of ⟨by omega, by omega⟩, ?_⟩; conv => whnf)
        exact ⟨_, by omega, i + 1, rfl, rfl, rfl, by omega, hg⟩
    · rw [drop_nil hi2] at hg
      rw [if_pos (by rw [hg]; rfl)] at her
      conv => whnf
      skip
      exact ⟨by rw [her], rfl⟩
theorem refCheckX (H : Hou) (lines : List (List Int)) (l : List Nd) (hf : CorFit H lines) (hl : NdsFit l) : QCall Tryz.prog 41 [.agg (encHou H), .sl 1 none (lines.map encIs), .sl 2 none (l.map encNd)] [] (.int .i64 (chkErr H lines l)) := by
  have hll := hl.many
  obtain ⟨keep, hkeep⟩ : ∃ k, k = ntr l := ⟨_, rfl⟩
  have hkl : keep.length ≤ 1048576 := by rw [hkeep, ntr_len]; exact hll
  have hN := hf.hou.lex.entries
  refine QCall.of' ?_
  obtain ⟨er, her⟩ : ∃ e, e = chkErr H lines l := ⟨_, rfl⟩
  rw [← her]
  unfold chkErr at her
  rw [← hkeep] at her
  refine fcalls (F := Tryz.f41) c41 rfl rfl rfl mixed rfl fun X => ?_
  conv => whnf
  repeat (refine QCall.k0 (refCheckC H lines hf) ?_; conv => whnf)
  refine ⟨fun h0 => ?_, fun h0 => ?_⟩ <;> simp at h0
  · have he : begErr H lines keep = corErr H lines := by rw [begErr, if_pos h0]
    rw [he, if_pos h0] at her
    conv => whnf
    skip
    rw [her]
  conv => whnf
  skip
  refine tloop rfl mixed [1, 2, 3, 8, 9] [] (fun m r h => ∃ (i : Nat) (ov : AV) (oh : Heap), r = [(1, [], .sl 1 none (lines.map encIs)), (2, [], .sl 2 none (l.map encNd)), (3, [], .iptr (encHou H)), (8, [], ov), (9, [], .int .i64 i)] ∧ h = oh ∧ m = l.length - i ∧ i ≤ l.length ∧ Out 1 (fun n => [AV.int .i64 n]) (ntr (l.take i)) ov oh) ?_ ?_
  · conv => whnf
    exact ⟨_, _, Turn.refl _ _, _, 0, .nilS, [], rfl, rfl, rfl, by omega, .inl ⟨rfl, rfl, rfl⟩⟩
  · rintro m r h' ⟨i, ov, oh, rfl, rfl, rfl, hi, ho⟩
    have hol : (ntr (l.take i)).length ≤ 1048576 := by unfold ntr; rw [List.length_map, List.length_take]; omega
    conv => whnf
    skip
    refine ⟨fun hi2 => ?_, fun hi2 => ?_⟩ <;> simp at hi2
    · obtain ⟨x, hx⟩ := get_lt hi2
      have hsn : ntr (l.take (i + 1)) = ntr (l.take i) ++ [x.entry] := by rw [take_snoc hx]; unfold ntr; rw [List.map_append]; rfl
      rcases ho with ⟨he, rfl, rfl⟩ | ⟨q, rfl, rfl⟩
      all_goals
        conv => whnf
        repeat ((first | refine ⟨gP_of ⟨by omega, by omega⟩, ?_⟩ | refine ix (by assumption) ?_ | (refine ⟨Nat.le_of_ble_eq_true rfl, fun q' => ?_⟩) | (refine ⟨(by rw [List.length_append, List.length_map]; simp at hol ⊢; unfold AMAX; omega), fun q' => ⟨_, .here _, ?_⟩⟩)); conv => whnf)
        refine ⟨_, _, Turn.refl _ _, _, (by omega), i + 1, _, [(q', .tok)], rfl, rfl, rfl, by omega, .inr ⟨q', ?_, rfl⟩⟩
        rw [hsn, List.map_append]
        first | done | rfl | (rw [he]; done) | (rw [he]; rfl)
    · rw [List.take_of_length_le hi2, ← hkeep] at ho
      have hle := ho.le (by decide)
      have hr := QCall.args (refChoice keep H.lex.entries.length (by unfold LMAX; omega) ⟨by omega, by unfold LMAX at hN; omega⟩) (.cons hle (.cons (VLe.refl _) .nil))
      rw [← List.length_map (f := encEnt)] at hr
      conv => whnf
      repeat (refine QCall.k0 (hr) ?_; conv => whnf)
      refine ⟨fun h1 => ?_, fun h1 => ?_⟩
      · have h1 : (!risM keep ((H.lex.entries.map encEnt).length : Int)) = true := h1
        rw [List.length_map, Bool.not_eq_true'] at h1
        have he : begErr H lines keep = 1 := by rw [begErr, if_neg (by omega), if_neg (by rw [h1]; decide)]
        rw [he, if_pos (by decide)] at her
        conv => whnf
        skip
        rw [her]
      have h1 : (!risM keep ((H.lex.entries.map encEnt).length : Int)) = false := h1
      rw [List.length_map, Bool.not_eq_false'] at h1
      have he : begErr H lines keep = 0 := by rw [begErr, if_neg (by omega), if_pos h1]
      rw [if_neg (by omega)] at her
      have hwd := refWorld H lines hf h0
      have hef := efit h0
      have hfl := hf.lines
      obtain ⟨G, hG⟩ : ∃ G, G = lines.map (graphM H) := ⟨_, rfl⟩
      have hGl : G.length ≤ 1048576 := by rw [hG, List.length_map]; omega
      obtain ⟨C, hC⟩ : ∃ C, C = corM H lines := ⟨_, rfl⟩
      have hGc : G.map lnks = C := by rw [hG, hC]; exact lnks_cor H lines
      have hCl : C.length ≤ 1048576 := by rw [hC, cor_len]; exact hfl
      rw [← hG] at hef hwd
      rw [← hC] at her
      have hall := QCall.args (refAll (H := H) hef hGl keep (by unfold LMAX; omega)) (.cons (VLe.refl _) (.cons hle .nil))
      rw [hGc] at hall
      have hnd : ∀ e, QCall Tryz.prog 67 [.iptr (encWld H G), ov, .int .i64 e] [] (.sl 1 none (ints (needsM C (memW keep) e))) := by
        intro e
        have := QCall.args (refNeeds (H := H) hef hGl keep hkl e) (.cons (VLe.refl _) (.cons hle (.cons (VLe.refl _) .nil)))
        rwa [hGc] at this
      conv => whnf
      repeat ((first | refine QCall.k0 (hwd) ?_ | refine QCall.k0 (hall) ?_); conv => whnf)
      refine ⟨fun h3 => ?_, fun h3 => ?_⟩
      · have h3 : (!allB C (memW keep)) = true := h3
        rw [Bool.not_eq_true'] at h3
        rw [if_neg (by rw [h3]; decide)] at her
        conv => whnf
        skip
        rw [her]
      have h3 : (!allB C (memW keep)) = false := h3
      rw [Bool.not_eq_false'] at h3
      rw [if_pos h3] at her
      clear ho
      conv => whnf
      skip
      refine sloop rfl mixed [2, 8, 10, 11] [] (fun m r h => ∃ (i : Nat), r = [(2, [], .sl 2 none (l.map encNd)), (8, [], ov), (10, [], .iptr (encWld H G)), (11, [], .int .i64 i)] ∧ h = h' ∧ m = l.length - i ∧ i ≤ l.length ∧ chkOK C keep l = chkOK C keep (l.drop i)) ?_ ?_
      · conv => whnf
        exact ⟨_, 0, rfl, rfl, rfl, by omega, rfl⟩
      · clear hi2 hi
        rintro m r hx0 ⟨i, rfl, rfl, rfl, hi, hg⟩
        conv => whnf
        skip
        refine ⟨fun hi2 => ?_, fun hi2 => ?_⟩ <;> simp at hi2
        · obtain ⟨x, hx⟩ := get_lt hi2
          have hxf := (hl.each x (List.mem_of_getElem? hx)).lines
          have hne := hnd x.entry
          obtain ⟨L, hL⟩ : ∃ L, L = needsM C (memW keep) x.entry := ⟨_, rfl⟩
          have hLl : L.length ≤ 1048576 := by rw [hL]; have := needsM_len C (memW keep) x.entry; omega
          rw [drop_cons hx] at hg
          have hg : chkOK C keep l = ((!decide (L = []) && decide (L = x.lines)) && chkOK C keep (l.drop (i + 1))) := by rw [hg, hL]; rfl
          rw [← hL] at hne
          have hcond : (decide (((ints L).length : Int) = 0) || !decide (L = x.lines)) = !(!decide (L = []) && decide (L = x.lines)) := by
            have : decide (((ints L).length : Int) = 0) = decide (L = []) := by rw [ints_length, decide_eq_decide]; cases L <;> simp; omega
            rw [this, Bool.not_and, Bool.not_not]
          conv => whnf
          repeat ((first | refine ix (by assumption) ?_ | refine QCall.k0 (hne) ?_ | refine gcall (refSameI10 L x.lines (by unfold LMAX; omega) (by unfold LMAX; omega)) ?_); conv => whnf)
          refine ⟨fun hq => ?_, fun hq => ?_⟩
          · have hq := hcond.symm.trans hq
            rw [Bool.not_eq_true'] at hq
            rw [hq, Bool.false_and] at hg
            rw [if_neg (by rw [hg]; decide)] at her
            conv => whnf
            skip
            rw [her]
          · have hq := hcond.symm.trans hq
            rw [Bool.not_eq_false'] at hq
            rw [hq, Bool.true_and] at hg
            conv => whnf
            repeat (refine ⟨gP_of ⟨by omega, by omega⟩, ?_⟩; conv => whnf)
            exact ⟨_, by omega, i + 1, rfl, rfl, rfl, by omega, hg⟩
        · rw [drop_nil hi2] at hg
          rw [if_pos (by rw [hg]; rfl)] at her
          conv => whnf
          skip
          rw [her]
theorem induceChecksL (H : Hou) (lines : List (List Int)) (l : List Nd) (hf : CorFit H lines) (hl : NdsFit l) : QCall Tryz.prog 11 [.agg (encHou H), .sl 1 none (lines.map encIs), .sl 2 none (l.map encNd)] [] (.bool true) := by
  refine fcalls (F := Tryz.f11) c11 rfl rfl rfl mixed rfl fun X => ?_
  conv => whnf
  repeat (refine QCall.k0 (heavyW H lines hf.lines) ?_; conv => whnf)
  refine ⟨fun hq => ?_, fun hq => ?_⟩
  · conv => whnf
    repeat (refine QCall.k0 (worksI) ?_; conv => whnf)
    exact ⟨rfl, rfl⟩
  · conv => whnf
    repeat ((first | refine gcall (CheckW H lines l hf hl) ?_ | refine gcall (refCheckX H lines l hf hl) ?_ | refine gcall (worksI) ?_ | refine And.intro (by show drawOK (opsAt Tryz.f11 _) _ = true; decide +kernel) ?_); conv => whnf)
    refine ⟨congrArg AV.bool ?_, rfl⟩
    simp
end Go.Abs.Wall.Lst
set_option maxRecDepth 100000
set_option maxHeartbeats 2000000
set_option linter.unusedVariables false
set_option linter.unusedSimpArgs false
namespace Go.Abs.Wall.Lst
open Go Go.Abs Go.Proofs Go.Abs.Wall Go.Proofs.YthkokengobdgcaaGreat.Br
/-! ### what is induced is needed -/
theorem indErr_zero {H : Hou} {lines : List (List Int)} (h : indErr H lines = 0) : corErr H lines = 0 ∧ allB (corM H lines) everyW = true := by
  unfold indErr at h
  split at h
  · rename_i h1; exact absurd h h1
  rename_i h1
  split at h
  · rename_i h2; exact ⟨by simpa using h1, h2⟩
  · cases h
def keptW (H : Hou) (lines : List (List Int)) : Int → Bool := indW (corM H lines) H.lex.entries.length
def keptL (H : Hou) (lines : List (List Int)) : List Int := keepL H.lex.entries.length (keptW H lines)
theorem ntr_ind {H : Hou} {lines : List (List Int)} (h : indErr H lines = 0) : ntr (indR H lines) = keptL H lines := by
  rw [indR, if_pos h]
  unfold indL ntr keptL keptW
  rw [List.map_map]
  exact (List.map_congr_left fun _ _ => rfl).trans (List.map_id _)
theorem beg_keep {H : Hou} {lines : List (List Int)} (h : corErr H lines = 0) (w : Int → Bool) : begErr H lines (keepL H.lex.entries.length w) = 0 := by
  unfold begErr
  rw [if_neg (by omega), if_pos]
  exact risM_iff.2 ⟨keepL_up, fun x hx => by have := keepL_mem.1 hx; exact ⟨this.1, this.2.1⟩⟩
theorem read_keep {H : Hou} {lines : List (List Int)} (h : corErr H lines = 0) (w : Int → Bool) : readL H lines (keepL H.lex.entries.length w) = (corM H lines).map (rdM w) := by
  rw [readL, if_pos (beg_keep h w)]
  exact List.map_congr_left fun g hg => rdM_mem (cor_ok h) hg
theorem kept_all {H : Hou} {lines : List (List Int)} (h : indErr H lines = 0) : allB (corM H lines) (keptW H lines) = true := indGo_all _ _ (indErr_zero h).2
theorem kept_need {H : Hou} {lines : List (List Int)} (h : indErr H lines = 0) {e : Int} (he : e ∈ keptL H lines) : needsM (corM H lines) (keptW H lines) e ≠ [] :=
  indL_need (cor_ok (indErr_zero h).1) (indErr_zero h).2 (ndOf (corM H lines) (keptW H lines) e) (List.mem_map_of_mem he)
theorem check_ind {H : Hou} {lines : List (List Int)} (h : indErr H lines = 0) : chkErr H lines (indR H lines) = 0 := by
  have h0 := (indErr_zero h).1
  unfold chkErr
  rw [ntr_ind h]
  unfold keptL
  rw [if_neg (by rw [beg_keep h0]; simp), allB_mem (cor_ok h0), if_pos (kept_all h), if_pos]
  unfold chkOK
  rw [List.all_eq_true]
  intro x hx
  rw [indR, if_pos h] at hx
  obtain ⟨e, he, rfl⟩ := List.mem_map.1 hx
  have h1 : needsM (corM H lines) (memW (keepL H.lex.entries.length (keptW H lines))) e = needsM (corM H lines) (keptW H lines) e := needsM_mem (cor_ok h0) _ _
  show (!decide (needsM (corM H lines) (memW (keepL H.lex.entries.length (keptW H lines))) e = []) && decide (needsM (corM H lines) (memW (keepL H.lex.entries.length (keptW H lines))) e = needsM (corM H lines) (keptW H lines) e)) = true
  rw [h1, decide_eq_false (kept_need h he), decide_eq_true rfl]
  rfl
theorem up_erase {l : List Int} (h : l.Pairwise (· < ·)) : ∀ {i : Nat} {e : Int}, l[i]? = some e → l.eraseIdx i = l.filter fun x => !decide (x = e) := by
  induction l with
  | nil => intro i e h; simp at h
  | cons a t ih =>
    intro i e hi
    rw [List.pairwise_cons] at h
    cases i with
    | zero =>
      simp at hi
      subst hi
      rw [List.eraseIdx_cons_zero, List.filter_cons, if_neg (by simp)]
      symm
      rw [List.filter_eq_self]
      intro x hx
      have := h.1 x hx
      simp
      omega
    | succ i =>
      simp only [List.getElem?_cons_succ] at hi
      have hlt := h.1 e (List.mem_of_getElem? hi)
      rw [List.eraseIdx_cons_succ, List.filter_cons, if_pos (by simp; omega), ih h.2 hi]
/-- which lines are not readable any more -/
def lostF (few : List Bool) (k : Nat) : Bool := !few.getD k false
theorem lost_need {H : Hou} {lines : List (List Int)} (h : indErr H lines = 0) (e : Int) :
    ((List.range ((corM H lines).map (rdM (but (keptW H lines) e))).length).filter (lostF ((corM H lines).map (rdM (but (keptW H lines) e))))).map (fun i : Nat => (i : Int)) = needsM (corM H lines) (keptW H lines) e := by
  unfold needsM
  rw [List.length_map]
  congr 1
  refine List.filter_congr fun i hi => ?_
  rw [List.mem_range] at hi
  obtain ⟨g, hg⟩ := get_lt hi
  have h1 : ((corM H lines).map (rdM (but (keptW H lines) e)))[i]? = some (rdM (but (keptW H lines) e) g) := by rw [List.getElem?_map, hg]; rfl
  have h2 : rdM (keptW H lines) g = true := by
    have := kept_all h
    unfold allB at this
    exact List.all_eq_true.1 this g (List.mem_of_getElem? hg)
  unfold lostF needsF
  rw [getD_of h1, getD_of hg, h2, Bool.true_and]
def c43 : Cfg := ⟨[0, 2, 3, 7, 14], [], [], [], [], []⟩
def c44 : Cfg := ⟨[0, 1, 4], [], [], [], [(1, [0, 1, 2, 4, 5, 6, 7, 3, 8, 9], [])], []⟩
def c12 : Cfg := ⟨[0, 1, 2, 4, 5, 6, 7, 8, 9, 10, 11, 12, 13, 16, 25, 56, 60, 89, 93, 100, 112], [], [], [], [(13, [0, 1, 2, 3, 4, 5, 6, 7, 8, 9, 10], [])], []⟩
def c7 : Cfg := ⟨[0, 1, 2, 3, 5, 6, 7, 8, 9, 10, 11, 12, 13, 14, 15, 16, 27, 38, 50, 60, 73, 93, 97, 110], [], [], [], [], []⟩
theorem lallW (l : List Bool) (hl : l.length ≤ 1048576) : QCall Tryz.prog 43 [.sl 1 none (l.map encB)] [] (.bool (l.all id)) := by
  refine fcalls (F := Tryz.f43) c43 rfl rfl rfl mixed rfl fun X => ?_
  conv => whnf
  skip
  refine sloop rfl mixed [0, 3] [] (fun m r h => ∃ (i : Nat), r = [(0, [], .sl 1 none (l.map encB)), (3, [], .int .i64 i)] ∧ h = [] ∧ m = l.length - i ∧ i ≤ l.length ∧ l.all id = (l.drop i).all id) ?_ ?_
  · conv => whnf
    exact ⟨_, 0, rfl, rfl, rfl, by omega, rfl⟩
  · rintro m r h ⟨i, rfl, rfl, rfl, hi, hg⟩
    conv => whnf
    skip
    refine ⟨fun hi2 => ?_, fun hi2 => ?_⟩ <;> simp at hi2
    · obtain ⟨x, hx⟩ := get_lt hi2
      rw [drop_cons hx, List.all_cons] at hg
      conv => whnf
      repeat (refine ix (by assumption) ?_; conv => whnf)
      refine ⟨fun hq => ?_, fun hq => ?_⟩ <;> simp at hq
      · subst hq
        conv => whnf
        skip
        exact ⟨congrArg AV.bool (by rw [hg]; rfl), rfl⟩
      · subst hq
        conv => whnf
        repeat (refine ⟨gP_of ⟨by omega, by omega⟩, ?_⟩; conv => whnf)
        exact ⟨_, by omega, i + 1, rfl, rfl, rfl, by omega, hg⟩
    · rw [drop_nil hi2] at hg
      conv => whnf
      skip
      exact ⟨congrArg AV.bool (by rw [hg]; rfl), rfl⟩
theorem erase_td (l : List Int) (i : Nat) : ints (l.eraseIdx i) = (ints l).take i ++ (ints l).drop (i + 1) := by
  unfold ints
  rw [List.eraseIdx_eq_take_drop_succ, List.map_append, List.map_take, List.map_drop]
theorem lwithoutW (l : List Int) (i : Nat) (hi : i < l.length) (hl : l.length ≤ 1048576) : QCall Tryz.prog 44 [.sl 1 none (ints l), .int .i64 i] [] (.sl 1 none (ints (l.eraseIdx i))) := by
  refine QCall.of ?_
  rw [erase_td]
  refine fcalls (F := Tryz.f44) c44 rfl rfl rfl mixed rfl fun X => ?_
  conv => whnf
  repeat ((first | refine ⟨gP_of ⟨by omega, by omega⟩, ?_⟩ | (refine ⟨gP_of ⟨by omega, by omega, by rw [ints_length]; omega⟩, ?_⟩) | refine And.intro (by show drawOK (opsAt Tryz.f44 _) _ = true; decide +kernel) ?_); conv => whnf)
  repeat ((refine ⟨gP_of ⟨by omega, by rw [ints_length]; omega, by omega⟩, ?_⟩); conv => whnf)
  conv => whnf
  repeat ((refine ⟨by unfold AMAX; simp [ints_length]; omega, fun q => ?_⟩); conv => whnf)
  refine ⟨_, .here _, ?_⟩
  conv => whnf
  skip
  have e1 : List.drop (Int.toNat 0) (List.take (i : Int).toNat (ints l)) ++ List.drop ((i : Int) + 1).toNat (List.take ((ints l).length : Int).toNat (ints l)) = List.take i (ints l) ++ List.drop (i + 1) (ints l) := by
    rw [show ((i : Int) + 1).toNat = i + 1 by omega, show (i : Int).toNat = i by omega, show ((ints l).length : Int).toNat = (ints l).length by omega, List.take_length]
    rfl
  rw [e1]
  exact VLe.sl
theorem keep_but {N : Nat} {w : Int → Bool} {e : Int} : ((keepL N w).filter fun x => !decide (x = e)) = keepL N (but w e) := by
  refine up_unique (keepL_up.filter _) keepL_up fun x => ?_
  rw [List.mem_filter, keepL_mem, keepL_mem]
  unfold but
  simp only [Bool.and_eq_true]
  constructor
  · rintro ⟨⟨a, b, c⟩, d⟩; exact ⟨a, b, d, c⟩
  · rintro ⟨a, b, d, c⟩; exact ⟨⟨a, b, c⟩, d⟩
theorem erase_read {H : Hou} {lines : List (List Int)} (h : indErr H lines = 0) {i : Nat} {e : Int} (he : (keptL H lines)[i]? = some e) :
    begErr H lines ((keptL H lines).eraseIdx i) = 0 ∧ readL H lines ((keptL H lines).eraseIdx i) = (corM H lines).map (rdM (but (keptW H lines) e)) := by
  have h1 : (keptL H lines).eraseIdx i = keepL H.lex.entries.length (but (keptW H lines) e) := by
    rw [up_erase (l := keptL H lines) keepL_up he]
    exact keep_but
  rw [h1]
  exact ⟨beg_keep (indErr_zero h).1 _, read_keep (indErr_zero h).1 _⟩
theorem getNd {H : Hou} {lines : List (List Int)} (h : indErr H lines = 0) {i : Nat} {x : Nd} (hx : (indR H lines)[i]? = some x) :
    (keptL H lines)[i]? = some x.entry ∧ x.lines = needsM (corM H lines) (keptW H lines) x.entry := by
  rw [indR, if_pos h, indL, List.getElem?_map, Option.map_eq_some_iff] at hx
  obtain ⟨e, he, rfl⟩ := hx
  exact ⟨he, rfl⟩
theorem induceNeededL (H : Hou) (lines : List (List Int)) (hf : CorFit H lines) : QCall Tryz.prog 12 [.agg (encHou H), .sl 1 none (lines.map encIs)] [] (.bool true) := by
  have hr := indR_fit hf
  refine QCall.of ?_
  refine fcalls (F := Tryz.f12) c12 rfl rfl rfl mixed rfl fun X => ?_
  conv => whnf
  repeat (refine QCall.k0 (heavyW H lines hf.lines) ?_; conv => whnf)
  refine ⟨fun hq => ?_, fun hq => ?_⟩
  · conv => whnf
    repeat (refine QCall.k0 (worksI) ?_; conv => whnf)
    exact VLe.refl _
  by_cases h0 : indErr H lines ≠ 0
  · conv => whnf
    repeat (refine QCall.k0 (induceW H lines hf) ?_; conv => whnf)
    refine cT (by simpa using h0) ?_
    conv => whnf
    repeat (refine QCall.k0 (worksI) ?_; conv => whnf)
    exact VLe.refl _
  have h0 : indErr H lines = 0 := by omega
  have hi := induceW H lines hf
  have hk : keptL H lines = ntr (indR H lines) := (ntr_ind h0).symm
  have hkl : (keptL H lines).length = (indR H lines).length := by rw [hk, ntr_len]
  have hR := ReadableW H lines (keptL H lines) hf (by omega)
  have hen := lentriesW (indR H lines) hr.1
  rw [← hk] at hen
  have hb : begErr H lines (keptL H lines) = 0 := beg_keep (indErr_zero h0).1 _
  have hrd : readL H lines (keptL H lines) = (corM H lines).map (rdM (keptW H lines)) := read_keep (indErr_zero h0).1 _
  have hall : (readL H lines (keptL H lines)).all id = true := by
    rw [hrd]
    have := kept_all h0
    unfold allB at this
    rw [List.all_eq_true] at this ⊢
    intro x hx
    obtain ⟨g, hg, rfl⟩ := List.mem_map.1 hx
    exact this g hg
  have hlen : (readL H lines (keptL H lines)).length = lines.length := by rw [hrd, List.length_map, cor_len]
  have hA := lallW (readL H lines (keptL H lines)) (by rw [hlen]; exact hf.lines)
  have hC := CheckW H lines (indR H lines) hf ⟨hr.1, hr.2⟩
  rw [h0] at hi
  rw [hb] at hR
  rw [hall] at hA
  rw [check_ind h0] at hC
  have hnd : ∀ (i : Nat) (x : Nd), (indR H lines)[i]? = some x → (keptL H lines)[i]? = some x.entry ∧ x.lines = needsM (corM H lines) (keptW H lines) x.entry := fun i x hx => getNd h0 hx
  have her : ∀ (i : Nat) (e : Int), (keptL H lines)[i]? = some e → begErr H lines ((keptL H lines).eraseIdx i) = 0 ∧ readL H lines ((keptL H lines).eraseIdx i) = (corM H lines).map (rdM (but (keptW H lines) e)) := fun i e he => erase_read h0 he
  have hne : ∀ x ∈ keptL H lines, needsM (corM H lines) (keptW H lines) x ≠ [] := fun x hx => kept_need h0 hx
  conv => whnf
  repeat (refine QCall.k0 (hi) ?_; conv => whnf)
  refine cF (by simp) ?_
  conv => whnf
  repeat ((first | refine QCall.k0 (hen) ?_ | refine QCall.k0 (hR) ?_ | refine gcall (hA) ?_ | refine gcall (hC) ?_); conv => whnf)
  refine cF (by rw [List.length_map, List.length_map, hlen]; simp) ?_
  conv => whnf
  skip
  refine sloop rfl mixed [1, 2, 5, 7, 9] [] (fun m r h => ∃ (i : Nat) (hp : Heap), r = [(1, [], .sl 1 none (lines.map encIs)), (2, [], .iptr (encHou H)), (5, [], .sl 2 none ((indR H lines).map encNd)), (7, [], .sl 1 none (ints (keptL H lines))), (9, [], .int .i64 i)] ∧ h = hp ∧ m = (indR H lines).length - i ∧ i ≤ (indR H lines).length) ?_ ?_
  · conv => whnf
    exact ⟨_, 0, _, rfl, rfl, rfl, by omega⟩
  · rintro m r h' ⟨i, hp, rfl, rfl, rfl, hi⟩
    conv => whnf
    skip
    refine ⟨fun hi2 => ?_, fun hi2 => ?_⟩ <;> simp at hi2
    · obtain ⟨x, hx⟩ := get_lt hi2
      obtain ⟨he, hxl⟩ := hnd i x hx
      obtain ⟨hb2, hr2⟩ := her i _ he
      have hwo := lwithoutW (keptL H lines) i (by omega) (by omega)
      have hR2 := ReadableW H lines ((keptL H lines).eraseIdx i) hf (by have := List.length_eraseIdx_le (keptL H lines) i; omega)
      rw [hb2] at hR2
      conv => whnf
      repeat ((first | refine ix (by assumption) ?_ | refine gcall (hwo) ?_ | refine gcall (hR2) ?_ | refine And.intro (by show drawOK (opsAt Tryz.f12 _) _ = true; decide +kernel) ?_); conv => whnf)
      have hlost := lost_need h0 x.entry
      have hflen : (readL H lines ((keptL H lines).eraseIdx i)).length = lines.length := by rw [hr2, List.length_map, cor_len]
      rw [← hr2] at hlost
      obtain ⟨F, hF⟩ : ∃ F, F = readL H lines ((keptL H lines).eraseIdx i) := ⟨_, rfl⟩
      rw [← hF] at hlost hflen ⊢
      have hx0 : x.lines ≠ [] := by rw [hxl]; exact hne _ (List.mem_of_getElem? he)
      have hx1 : x.lines.length ≠ 0 := by cases hl : x.lines with | nil => exact absurd hl hx0 | cons a t => simp
      have hfl := hf.lines
      refine cF (by rw [List.length_map, List.length_map, hflen, ints_length]; simp [hx0]) ?_
      conv => whnf
      skip
      refine tloop rfl mixed [1, 2, 5, 7, 9, 10, 12, 13] [] (fun m r h => ∃ (j : Nat) (ov : AV) (oh : Heap), r = [(1, [], .sl 1 none (lines.map encIs)), (2, [], .iptr (encHou H)), (5, [], .sl 2 none ((indR H lines).map encNd)), (7, [], .sl 1 none (ints (keptL H lines))), (9, [], .int .i64 i), (10, [], .sl 1 none (F.map encB)), (12, [], ov), (13, [], .int .i64 j)] ∧ h = oh ++ h' ∧ m = F.length - j ∧ j ≤ F.length ∧ Out 1 encNat ((List.range j).filter (lostF F)) ov oh) ?_ ?_
      · conv => whnf
        exact ⟨_, _, Turn.refl _ _, _, 0, .nilS, [], rfl, rfl, rfl, by omega, .inl ⟨rfl, rfl, rfl⟩⟩
      · rintro m r h2 ⟨j, ov, oh, rfl, rfl, rfl, hj, ho⟩
        have hol := filter_len (p := lostF F) j
        conv => whnf
        refine ⟨fun hj2 => ?_, fun hj2 => ?_⟩ <;> simp at hj2
        · obtain ⟨y, hy⟩ := get_lt hj2
          have hsn := filter_snoc (p := lostF F) j
          have hyl : lostF F j = !y := by unfold lostF; rw [getD_of hy]
          rw [hyl] at hsn
          rcases ho with ⟨he, rfl, rfl⟩ | ⟨q, rfl, rfl⟩
          all_goals
            conv => whnf
            repeat (refine ix (by assumption) ?_; conv => whnf)
            refine ⟨fun hq => ?_, fun hq => ?_⟩
            · have hq : (!y) = true := hq
              rw [if_pos hq] at hsn
              conv => whnf
              repeat ((first | refine ⟨gP_of ⟨by omega, by omega⟩, ?_⟩ | (refine ⟨Nat.le_of_ble_eq_true rfl, fun q' => ?_⟩) | (refine ⟨(by simp; unfold AMAX; omega), fun q' => ⟨_, .here _, ?_⟩⟩)); conv => whnf)
              refine ⟨_, _, Turn.refl _ _, _, (by omega), j + 1, _, [(q', .tok)], rfl, rfl, rfl, by omega, .inr ⟨q', ?_, rfl⟩⟩
              rw [hsn, List.map_append]
              first | done | rfl | (rw [he]; done) | (rw [he]; rfl)
            · have hq : (!y) = false := hq
              rw [if_neg (by rw [hq]; decide), List.append_nil] at hsn
              conv => whnf
              repeat (refine ⟨gP_of ⟨by omega, by omega⟩, ?_⟩; conv => whnf)
              refine ⟨_, _, Turn.refl _ _, _, (by omega), j + 1, _, _, rfl, rfl, rfl, by omega, ?_⟩
              rw [hsn]
              first | exact .inl ⟨he, rfl, rfl⟩ | exact .inr ⟨q, rfl, rfl⟩
        · have hj3 : j = F.length := by omega
          subst hj3
          have hsm := sameInts10 x.lines x.lines (by have := (hr.2 x (List.mem_of_getElem? hx)).lines; unfold LMAX; omega) (by have := (hr.2 x (List.mem_of_getElem? hx)).lines; unfold LMAX; omega)
          rw [decide_eq_true rfl] at hsm
          have hov := ho.le (by decide)
          have e2 : (((List.range F.length).filter (lostF F)).map encNat) = ints x.lines := by rw [hxl, ← hlost, ints_nat]
          rw [e2] at hov
          have hsm := QCall.args hsm (.cons hov (.cons (VLe.refl _) .nil))
          conv => whnf
          repeat ((first | refine ix (by assumption) ?_ | (refine QCall.k0 hsm ?_)); conv => whnf)
          refine cF rfl ?_
          conv => whnf
          repeat (refine ⟨gP_of ⟨by omega, by omega⟩, ?_⟩; conv => whnf)
          exact ⟨_, by omega, i + 1, _, rfl, rfl, rfl, by omega⟩
    · conv => whnf
      repeat (refine QCall.k0 (worksI) ?_; conv => whnf)
      exact VLe.refl _
/-! ### more is chosen: no line is lost -/
def moreE (N : Nat) (c : Int) : Int := ((c.tmod N + N).tmod N)
def moreF (keep : List Int) (e : Int) : Int → Bool := fun x => decide (x = e) || decide (x ∈ keep)
theorem moreE_in (c : Int) {N : Nat} (h : 0 < N) : 0 ≤ moreE N c ∧ moreE N c < N ∧ (-(N : Int) < c.tmod N ∧ c.tmod N < N) := by
  have h1 : -(N : Int) < c.tmod N := Int.lt_tmod_of_pos _ (by omega)
  have h2 : c.tmod N < N := Int.tmod_lt_of_pos _ (by omega)
  have h3 : 0 ≤ (c.tmod N + N).tmod N := Int.tmod_nonneg _ (by omega)
  have h4 : (c.tmod N + N).tmod N < N := Int.tmod_lt_of_pos _ (by omega)
  exact ⟨h3, h4, h1, h2⟩
theorem i64_of {x : Int} (h : -9223372036854775808 ≤ x) (h' : x ≤ 9223372036854775807) : IntKind.i64.has x := ⟨h, h'⟩
theorem induceMoreL (H : Hou) (lines : List (List Int)) (c : Cho) (hf : CorFit H lines) (hk : c.keep.length ≤ 1048576) (he : IntKind.i64.has c.entry) : QCall Tryz.prog 7 [.agg (encHou H), .sl 1 none (lines.map encIs), .agg (encCho c)] [] (.bool true) := by
  refine QCall.of ?_
  have hnl := hf.hou
  refine fcalls (F := Tryz.f7) c7 rfl rfl rfl mixed rfl fun X => ?_
  conv => whnf
  repeat (refine QCall.k0 (heavyW H lines hf.lines) ?_; conv => whnf)
  refine ⟨fun hq => ?_, fun hq => ?_⟩
  · conv => whnf
    repeat (refine QCall.k0 (worksI) ?_; conv => whnf)
    exact VLe.refl _
  have hn0 : H.lex.entries.length ≠ 0 := by
    simp only [Bool.or_eq_false_iff, decide_eq_false_iff_not, List.length_map] at hq
    omega
  have hR := ReadableW H lines c.keep hf hk
  by_cases hb : begErr H lines c.keep ≠ 0
  · conv => whnf
    repeat (refine QCall.k0 (hR) ?_; conv => whnf)
    refine cT (by simpa using hb) ?_
    conv => whnf
    repeat (refine QCall.k0 (worksI) ?_; conv => whnf)
    exact VLe.refl _
  have hb : begErr H lines c.keep = 0 := by omega
  rw [hb] at hR
  conv => whnf
  repeat (refine QCall.k0 (hR) ?_; conv => whnf)
  refine cF (by simp) ?_
  have hc0 : corErr H lines = 0 := (begErr_zero hb).1
  have hN' : H.lex.entries.length ≤ 200 := (houOK (corErr_zero hc0).1).lex.many.1
  have hm := moreE_in c.entry (N := H.lex.entries.length) (by omega)
  obtain ⟨n, hnn⟩ : ∃ n, n = H.lex.entries.length := ⟨_, rfl⟩
  have hle : (H.lex.entries.map encEnt).length = n := by rw [List.length_map, hnn]
  rw [← hnn] at hm hN' hn0
  obtain ⟨hm1, hm2, hm3, hm4⟩ := hm
  have hj : IntKind.i64.has ((c.entry.tmod n + n).tmod n) := i64_of (by unfold moreE at hm1; omega) (by unfold moreE at hm2; omega)
  obtain ⟨e, hee⟩ : ∃ e, e = moreE n c.entry := ⟨_, rfl⟩
  have hee' : (c.entry.tmod n + n).tmod n = e := hee.symm
  rw [← hee] at hm1 hm2
  conv => whnf
  repeat ((first | (refine ⟨gP_of ⟨by rw [hle]; omega, by rw [hle]; exact i64_of (by omega) (by omega)⟩, ?_⟩) | (refine ⟨gP_of (by rw [hle]; exact i64_of (by omega) (by omega)), ?_⟩)); conv => whnf)
  rw [hle, hee'] at *
  refine tloop rfl mixed [1, 3, 5, 7, 8, 10, 11, 12] [] (fun m r h => ∃ (i : Nat) (ov : AV) (oh : Heap), r = [(1, [], .sl 1 none (lines.map encIs)), (3, [], .iptr (encHou H)), (5, [], .iptr (encCho c)), (7, [], .int .i64 n), (8, [], .sl 1 none ((readL H lines c.keep).map encB)), (10, [], .int .i64 e), (11, [], ov), (12, [], .int .i64 i)] ∧ h = oh ∧ m = n - i ∧ i ≤ n ∧ Out 1 encNat ((List.range i).filter (keepF (moreF c.keep e))) ov oh) ?_ ?_
  · conv => whnf
    exact ⟨_, _, Turn.refl _ _, _, 0, .nilS, [], rfl, rfl, rfl, by omega, .inl ⟨rfl, rfl, rfl⟩⟩
  · rintro m r hO ⟨i, ov, oh, rfl, rfl, rfl, hj, ho⟩
    have hol := filter_len (p := keepF (moreF c.keep e)) i
    conv => whnf
    skip
    refine ⟨fun hj2 => ?_, fun hj2 => ?_⟩ <;> simp at hj2
    · have hsn := filter_snoc (p := keepF (moreF c.keep e)) i
      have hkf : keepF (moreF c.keep e) i = (decide ((i : Int) = e) || decide ((i : Int) ∈ c.keep)) := rfl
      rw [hkf] at hsn
      conv => whnf
      skip
      refine sloop rfl mixed [1, 3, 5, 7, 8, 10, 11, 12, 13, 14] [] (fun m r h => ∃ (k : Nat), r = [(1, [], .sl 1 none (lines.map encIs)), (3, [], .iptr (encHou H)), (5, [], .iptr (encCho c)), (7, [], .int .i64 n), (8, [], .sl 1 none ((readL H lines c.keep).map encB)), (10, [], .int .i64 e), (11, [], ov), (12, [], .int .i64 i), (13, [], .bool (decide ((i : Int) = e) || decide ((i : Int) ∈ c.keep.take k))), (14, [], .int .i64 k)] ∧ h = hO ∧ m = c.keep.length - k ∧ k ≤ c.keep.length) ?_ ?_
      · conv => whnf
        exact ⟨_, 0, by simp, rfl, rfl, by omega⟩
      · rintro m r hI ⟨k, rfl, rfl, rfl, hk2⟩
        conv => whnf
        skip
        refine ⟨fun hk3 => ?_, fun hk3 => ?_⟩ <;> simp [ints_length] at hk3
        · obtain ⟨y, hy⟩ := get_lt hk3
          have htk : (decide ((i : Int) = e) || decide ((i : Int) ∈ c.keep.take (k + 1))) = (decide ((i : Int) = e) || decide ((i : Int) ∈ c.keep.take k) || decide (y = (i : Int))) := by
            rw [take_snoc hy]
            by_cases h1 : (i : Int) = e <;> by_cases h2 : (i : Int) ∈ c.keep.take k <;> by_cases h3 : y = (i : Int) <;> simp [h1, h2, h3, eq_comm]
          conv => whnf
          repeat ((first | refine ⟨gP_of ⟨by omega, by omega⟩, ?_⟩ | refine ix (by assumption) ?_); conv => whnf)
          exact ⟨_, by omega, k + 1, by rw [htk]; rfl, rfl, rfl, by omega⟩
        · rw [List.take_of_length_le (by omega)]
          refine ⟨fun hq => ?_, fun hq => ?_⟩
          · rw [if_pos hq] at hsn
            rcases ho with ⟨he, rfl, rfl⟩ | ⟨q, rfl, rfl⟩
            all_goals
              conv => whnf
              repeat ((first | refine ⟨gP_of ⟨by omega, by omega⟩, ?_⟩ | (refine ⟨Nat.le_of_ble_eq_true rfl, fun q' => ?_⟩) | (refine ⟨(by simp; unfold AMAX; omega), fun q' => ⟨_, .here _, ?_⟩⟩)); conv => whnf)
              refine ⟨_, _, Turn.refl _ _, _, (by omega), i + 1, _, [(q', .tok)], rfl, rfl, rfl, by omega, .inr ⟨q', ?_, rfl⟩⟩
              rw [hsn, List.map_append]
              first | done | rfl | (rw [he]; done) | (rw [he]; rfl)
          · rw [if_neg (by rw [hq]; decide), List.append_nil] at hsn
            conv => whnf
            repeat (refine ⟨gP_of ⟨by omega, by omega⟩, ?_⟩; conv => whnf)
            refine ⟨_, _, Turn.refl _ _, _, (by omega), i + 1, _, _, rfl, rfl, rfl, by omega, ?_⟩
            rw [hsn]
            exact ho
    · have hi3 : i = n := by omega
      subst hi3
      have hkk : ((List.range i).filter (keepF (moreF c.keep e))).map encNat = ints (keepL H.lex.entries.length (moreF c.keep e)) := by
        rw [← hnn, keepL, ints_nat]
      have hR2 := ReadableW H lines (keepL H.lex.entries.length (moreF c.keep e)) hf (by unfold keepL; rw [List.length_map, ← hnn]; omega)
      rw [beg_keep hc0] at hR2
      have hov := ho.le (by decide)
      rw [hkk] at hov
      have hR2 := QCall.args hR2 (.cons (VLe.refl _) (.cons (VLe.refl _) (.cons hov .nil)))
      have hlen1 : (readL H lines c.keep).length = lines.length := by rw [readL, if_pos hb, List.length_map, cor_len]
      have hlen2 : (readL H lines (keepL H.lex.entries.length (moreF c.keep e))).length = lines.length := by rw [readL, if_pos (beg_keep hc0 _), List.length_map, cor_len]
      have hmono : ∀ (k : Nat) (a b : Bool), (readL H lines c.keep)[k]? = some a → (readL H lines (keepL H.lex.entries.length (moreF c.keep e)))[k]? = some b → a = true → b = true := by
        intro k a b ha hbb hat
        rw [readL, if_pos hb, List.getElem?_map, Option.map_eq_some_iff] at ha
        obtain ⟨g, hg, rfl⟩ := ha
        rw [read_keep hc0, List.getElem?_map, hg] at hbb
        have hbb : rdM (moreF c.keep e) g = b := by simpa using hbb
        rw [← hbb]
        refine rdM_mono ((cor_ok hc0).links g (List.mem_of_getElem? hg)) (fun es hes x hx hw => ?_) hat
        unfold memW at hw
        unfold moreF
        rw [hw, Bool.or_true]
      obtain ⟨A, hA⟩ : ∃ A, A = readL H lines c.keep := ⟨_, rfl⟩
      obtain ⟨B, hB⟩ : ∃ B, B = readL H lines (keepL H.lex.entries.length (moreF c.keep e)) := ⟨_, rfl⟩
      rw [← hB] at hR2 hlen2 hmono
      rw [← hA] at hlen1 hmono ⊢
      have hfl := hf.lines
      conv => whnf
      repeat ((refine QCall.k0 hR2 ?_); conv => whnf)
      refine cF (by rw [List.length_map, List.length_map, hlen1, hlen2]; simp) ?_
      conv => whnf
      skip
      refine sloop rfl mixed [8, 15, 16] [] (fun m r h => ∃ (k : Nat), r = [(8, [], .sl 1 none (A.map encB)), (15, [], .sl 1 none (B.map encB)), (16, [], .int .i64 k)] ∧ h = hO ∧ m = A.length - k ∧ k ≤ A.length) ?_ ?_
      · conv => whnf
        exact ⟨_, 0, rfl, rfl, rfl, by omega⟩
      · rintro m r hI ⟨k, rfl, rfl, rfl, hk2⟩
        conv => whnf
        skip
        refine ⟨fun hk3 => ?_, fun hk3 => ?_⟩ <;> simp at hk3
        · obtain ⟨a, ha⟩ := get_lt hk3
          obtain ⟨b, hbb⟩ := get_lt (show k < B.length by omega)
          have hab := hmono k a b ha hbb
          conv => whnf
          repeat (refine ix (by assumption) ?_; conv => whnf)
          refine cF (by cases a <;> cases b <;> simp at hab ⊢) ?_
          conv => whnf
          repeat (refine ⟨gP_of ⟨by omega, by omega⟩, ?_⟩; conv => whnf)
          exact ⟨_, by omega, k + 1, rfl, rfl, rfl, by omega⟩
        · conv => whnf
          repeat (refine QCall.k0 (worksI) ?_; conv => whnf)
          exact VLe.refl _
end Go.Abs.Wall.Lst

