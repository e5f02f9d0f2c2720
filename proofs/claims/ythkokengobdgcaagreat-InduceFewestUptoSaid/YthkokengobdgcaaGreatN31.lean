/- What is proved: small laws for the walks of this seat, and contracts of its functions. No condition but those each theorem names. -/
import Derived.Test.YthkokengobdgcaaGreatN30
import Derived.Test.YthkokengobdgcaaGreatN26
set_option maxRecDepth 100000
set_option maxHeartbeats 2000000
set_option linter.unusedVariables false
set_option linter.unusedSimpArgs false
namespace Go.Abs.Wall.Lst
open Go Go.Abs Go.Proofs Go.Abs.Wall
/-! ### the smallest choice: the program's and the specification's -/
def fixW (C : Cor) : Int → Bool := fun e => !allB C (but everyW e)
def opnW (C : Cor) : Int → Bool := fun e => allB C (but everyW e) && usedB C e
def fixL (C : Cor) (N : Nat) : List Int := keepL N (fixW C)
def opnL (C : Cor) (N : Nat) : List Int := keepL N (opnW C)
def smP (C : Cor) (N : Nat) : Option (List Int) := pickN (pickM (okP C) (fixL C N) (opnL C N)) 0 ((opnL C N).length + 1)
def smErr (H : Hou) (lines : List (List Int)) : Int :=
  if corErr H lines ≠ 0 then corErr H lines
  else if allB (corM H lines) everyW = false then 52
  else if 16 < (opnL (corM H lines) H.lex.entries.length).length then 2
  else if (smP (corM H lines) H.lex.entries.length).isSome = true then 0 else 52
def smL (H : Hou) (lines : List (List Int)) : List Int := if smErr H lines = 0 then sortI ((smP (corM H lines) H.lex.entries.length).getD []) else []
theorem sortI_perm (l : List Int) : (sortI l).Perm l := List.mergeSort_perm _ _
theorem sortI_up {l : List Int} (h : l.Nodup) : (sortI l).Pairwise (· < ·) := by
  have h1 : (sortI l).Pairwise (fun a b => decide (a ≤ b) = true) := List.pairwise_mergeSort (by intro a b c; simp; omega) (by intro a b; simp; omega) l
  have h2 : (sortI l).Pairwise (· ≠ ·) := (sortI_perm l).nodup_iff.2 h
  refine (h1.and h2).imp ?_
  rintro a b ⟨h3, h4⟩
  simp at h3
  omega
theorem up_nodup {l : List Int} (h : l.Pairwise (· < ·)) : l.Nodup := h.imp fun h => by omega
theorem fix_opn {C : Cor} {N : Nat} {s : List Int} (hs : s.Sublist (opnL C N)) : (fixL C N ++ s).Nodup := by
  refine List.nodup_append.2 ⟨up_nodup keepL_up, (up_nodup keepL_up).sublist hs, ?_⟩
  intro a ha b hb e
  subst e
  have h1 := (keepL_mem.1 ha).2.2
  have h2 := (keepL_mem.1 (hs.subset hb)).2.2
  unfold fixW at h1
  unfold opnW at h2
  rw [Bool.and_eq_true] at h2
  rw [h2.1] at h1
  cases h1
theorem sel_sort {C : Cor} {N : Nat} {s : List Int} (hs : s.Sublist (opnL C N)) : sortI (fixL C N ++ s) = selL N (fixL C N) s := by
  refine up_unique (sortI_up (fix_opn hs)) keepL_up fun x => ?_
  rw [(sortI_perm _).mem_iff]
  unfold selL
  rw [List.mem_append, keepL_mem, Bool.or_eq_true]
  unfold memW
  rw [decide_eq_true_eq, decide_eq_true_eq]
  constructor
  · rintro (h | h)
    · have := keepL_mem.1 h
      exact ⟨this.1, this.2.1, .inl h⟩
    · have := keepL_mem.1 (hs.subset h)
      exact ⟨this.1, this.2.1, .inr h⟩
  · exact fun h => h.2.2
theorem pick_both {C : Cor} {N : Nat} : ∀ (free : List Int) (n : Nat) (begun : List Int), (begun ++ free).Sublist (opnL C N) →
    pickM (okP C) (fixL C N ++ begun) free n = (pickM (okR C N (fixL C N)) begun free n).map (fixL C N ++ ·)
  | free, 0, begun, h => by
    have hs := sel_sort ((List.sublist_append_left begun free).trans h)
    rw [pickM, pickM]
    unfold okP okR
    rw [hs]
    split <;> rfl
  | [], n + 1, begun, h => by rw [pickM, pickM]; rfl
  | x :: t, n + 1, begun, h => by
    have h1 := pick_both t n (begun ++ [x]) (by rw [List.append_assoc]; exact h)
    have h2 := pick_both t (n + 1) begun ((List.Sublist.append_left (List.sublist_cons_self x t) begun).trans h)
    rw [pickM, pickM, List.append_assoc, h1, h2]
    cases pickM (okR C N (fixL C N)) (begun ++ [x]) t n <;> rfl
theorem pickN_map {f g : Nat → Option (List Int)} {F : List Int → List Int} (h : ∀ n, f n = (g n).map F) : ∀ (k n : Nat), pickN f n k = (pickN g n k).map F
  | 0, n => rfl
  | k + 1, n => by
    rw [pickN, pickN, h n, pickN_map h k]
    cases g n <;> rfl
/-- what the specification finds -/
def smR (C : Cor) (N : Nat) : Option (List Int) := pickN (pickM (okR C N (fixL C N)) [] (opnL C N)) 0 ((opnL C N).length + 1)
theorem smP_R (C : Cor) (N : Nat) : smP C N = (smR C N).map (fixL C N ++ ·) := by
  refine pickN_map (fun n => ?_) _ _
  have := pick_both (C := C) (N := N) (opnL C N) n [] (by simp)
  rwa [List.append_nil] at this
theorem okP_cpt {C : Cor} (h : ∀ g ∈ C, LOK g) : okP (C.map fun g => g.map cpt) = okP C := by
  funext l
  unfold okP
  rw [allB_cpt h]
theorem usedB_cpt {C : Cor} (h : ∀ g ∈ C, LOK g) (e : Int) : usedB (C.map fun g => g.map cpt) e = usedB C e := by
  unfold usedB
  rw [List.any_map]
  exact any_cong fun g hg => usedG_cpt (h g hg)
theorem fixW_cpt {C : Cor} (h : ∀ g ∈ C, LOK g) : fixW (C.map fun g => g.map cpt) = fixW C := by
  funext e
  unfold fixW
  rw [allB_cpt h]
theorem opnW_cpt {C : Cor} (h : ∀ g ∈ C, LOK g) : opnW (C.map fun g => g.map cpt) = opnW C := by
  funext e
  unfold opnW
  rw [allB_cpt h, usedB_cpt h]
theorem smP_cpt {C : Cor} (h : ∀ g ∈ C, LOK g) (N : Nat) : smP (C.map fun g => g.map cpt) N = smP C N := by
  unfold smP fixL opnL
  rw [okP_cpt h, fixW_cpt h, opnW_cpt h]
def c47 : Cfg := ⟨[0, 1, 2, 4, 5, 6, 7, 8, 9, 10, 11, 12, 13, 14, 22, 26, 32, 33, 34, 36, 46, 58, 61, 62, 63, 73], [], [], [], [(16, [], [])], []⟩
theorem smallestA (H : Hou) (lines : List (List Int)) (hf : CorFit H lines) :
    QCall Tryz.prog 47 [.agg (encHou H), .sl 1 none (lines.map encIs)] [] (.tup [.sl 1 none (ints (smL H lines)), .int .i64 (smErr H lines)]) := by
  have ho := openA H lines hf.hou hf.lines hf.line
  have h0n : ∀ l : List Int, VLe .nilS (.sl 1 none (ints ([] : List Int))) := fun _ => VLe.nil (by decide)
  by_cases h0 : corErr H lines = 0
  · have hcf := corP_fit h0
    have hok := cor_ok h0
    have hv : corV H lines = corP H lines := by rw [corV, if_pos h0]
    rw [hv, h0] at ho
    have hall := allA hcf (by rw [corP_len]; exact hf.lines) (f := 58) (caps := []) (hp := []) (fun e => everyA e [])
    rw [show allB (corP H lines) everyW = allB (corM H lines) everyW from allB_cpt hok.links _] at hall
    cases h1 : allB (corM H lines) everyW with
    | false =>
      rw [h1] at hall
      have he : smErr H lines = 52 := by rw [smErr, if_neg (by omega), if_pos h1]
      rw [smL, he, if_neg (by decide)]
      refine QCall.of ?_
      refine fcalls (F := Tryz.f47) c47 rfl rfl rfl mixed rfl fun X => ?_
      conv => whnf
      repeat (refine QCall.k0 (ho) ?_; conv => whnf)
      refine cF rfl ?_
      conv => whnf
      repeat (refine QCall.k0 (hall) ?_; conv => whnf)
      refine cT rfl ?_
      conv => whnf
      skip
      exact VLe.tup (.cons (h0n []) (.cons (VLe.refl _) .nil))
    | true =>
      rw [h1] at hall
      obtain ⟨C, hC⟩ : ∃ C, C = corP H lines := ⟨_, rfl⟩
      obtain ⟨N, hN⟩ : ∃ N, N = H.lex.entries.length := ⟨_, rfl⟩
      have hNf : H.lex.entries.length ≤ 200 := (houOK (corErr_zero h0).1).lex.many.1
      have hNe : (H.lex.entries.map encEnt).length = N := by rw [List.length_map, hN]
      have hCl : C.length ≤ 1048576 := by rw [hC, corP_len]; exact hf.lines
      have hfw : fixW C = fixW (corM H lines) := by rw [hC]; exact fixW_cpt hok.links
      have how : opnW C = opnW (corM H lines) := by rw [hC]; exact opnW_cpt hok.links
      have hsp : smP (corM H lines) N = smP C N := by rw [hC]; exact (smP_cpt hok.links N).symm
      have hop : opnL (corM H lines) N = opnL C N := by unfold opnL; rw [how]
      have hse : smErr H lines = if 16 < (opnL C N).length then 2 else if (smP C N).isSome = true then 0 else 52 := by
        rw [smErr, if_neg (by omega), if_neg (by rw [h1]; decide), ← hN, hop, hsp]
      have hsl : smL H lines = if smErr H lines = 0 then sortI ((smP C N).getD []) else [] := by
        rw [smL, ← hN, hsp]
      rw [hsl, hse]
      rw [← hC] at hcf ho hall
      rw [← hN] at hNf
      have hus := usedA hcf hCl
      have hol1 : ∀ i, ((List.range i).filter (keepF (fixW C))).length ≤ i := fun i => filter_len i
      have hol2 : ∀ i, ((List.range i).filter (keepF (opnW C))).length ≤ i := fun i => filter_len i
      refine QCall.of ?_
      refine fcalls (F := Tryz.f47) c47 rfl rfl rfl mixed rfl fun X => ?_
      conv => whnf
      repeat (refine QCall.k0 (ho) ?_; conv => whnf)
      refine cF rfl ?_
      conv => whnf
      repeat (refine QCall.k0 (hall) ?_; conv => whnf)
      refine cF rfl ?_
      conv => whnf
      repeat ((refine ACalls.mono ?_ hus); conv => whnf)
      rintro v h' ⟨mb, es, rfl, rfl, hseen⟩
      skip
      refine tloop rfl mixed [6, 8, 9, 10, 32, 33] [] (fun m r h => ∃ (i : Nat) (ov : AV) (oh : Heap) (ov2 : AV) (oh2 : Heap), r = [(6, [], encCor C), (8, [], .omap mb), (9, [], ov), (10, [], ov2), (32, [], .int .i64 (H.lex.entries.map encEnt).length), (33, [], .int .i64 i)] ∧ h = oh ++ (oh2 ++ [(mb, mapI es)]) ∧ m = N - i ∧ i ≤ N ∧ Out 1 encNat ((List.range i).filter (keepF (fixW C))) ov oh ∧ Out 1 encNat ((List.range i).filter (keepF (opnW C))) ov2 oh2) ?_ ?_
      · conv => whnf
        exact ⟨_, _, Turn.refl _ _, _, 0, .nilS, [], .nilS, [], rfl, rfl, rfl, by omega, .inl ⟨rfl, rfl, rfl⟩, .inl ⟨rfl, rfl, rfl⟩⟩
      · rintro m r h' ⟨i, ov, oh, ov2, oh2, rfl, rfl, rfl, hi, hq1, hq2⟩
        conv => whnf
        refine ⟨fun hi2 => ?_, fun hi2 => ?_⟩ <;> simp only [decide_eq_true_eq, decide_eq_false_iff_not] at hi2
        · have hi3 : i < N := by omega
          have hsn1 := filter_snoc (p := keepF (fixW C)) i
          have hsn2 := filter_snoc (p := keepF (opnW C)) i
          have hl1 := hol1 i
          have hl2 := hol2 i
          have hk1 : keepF (fixW C) i = !allB C (but everyW i) := rfl
          have hk2 : keepF (opnW C) i = (allB C (but everyW i) && usedB C i) := rfl
          have hal := fun hp : Heap => allA hcf hCl (butF (f := 58) (caps := []) (hp := hp) (w := everyW) (fun e => everyA e hp) (i : Int))
          rcases hq1 with ⟨he1, rfl, rfl⟩ | ⟨q1, rfl, rfl⟩ <;> rcases hq2 with ⟨he2, rfl, rfl⟩ | ⟨q2, rfl, rfl⟩
          all_goals
            conv => whnf
            repeat ((first | refine QCall.k0 (butA _ _ _) ?_ | (refine QCall.k (hal _) ?_)); conv => whnf)
            refine ⟨fun hq => ?_, fun hq => ?_⟩
            · have hq : (!allB C (but everyW i)) = true := hq
              have hq' : allB C (but everyW i) = false := by simpa using hq
              rw [hk1, if_pos hq] at hsn1
              rw [hk2, hq', Bool.false_and, if_neg (by decide), List.append_nil] at hsn2
              conv => whnf
              repeat ((first | refine ⟨gP_of ⟨by omega, by omega⟩, ?_⟩ | (refine ⟨Nat.le_of_ble_eq_true rfl, fun q' => ?_⟩) | (refine ⟨(by simp; unfold AMAX; omega), fun q' => ⟨_, .here _, ?_⟩⟩)); conv => whnf)
              first
                | refine ⟨_, _, Turn.refl _ _, _, (by omega), i + 1, _, [(q', .tok)], _, [], rfl, rfl, rfl, by omega, .inr ⟨q', ?_, rfl⟩, .inl ⟨by rw [hsn2]; exact he2, rfl, rfl⟩⟩
                | refine ⟨_, _, Turn.refl _ _, _, (by omega), i + 1, _, [(q', .tok)], _, [(q2, .tok)], rfl, rfl, rfl, by omega, .inr ⟨q', ?_, rfl⟩, .inr ⟨q2, by rw [hsn2], rfl⟩⟩
              rw [hsn1, List.map_append]
              first | done | rfl | (rw [he1]; done) | (rw [he1]; rfl)
            · have hq : (!allB C (but everyW i)) = false := hq
              have hq' : allB C (but everyW i) = true := by simpa using hq
              rw [hk1, if_neg (by rw [hq]; decide), List.append_nil] at hsn1
              rw [hk2, hq', Bool.true_and] at hsn2
              conv => whnf
              repeat ((first | (refine lkI (.head _) heqInt plainInt ?_) | (refine lkI (.tail _ (.head _)) heqInt plainInt ?_) | (refine lkI (.tail _ (.tail _ (.head _))) heqInt plainInt ?_)); conv => whnf)
              refine ⟨fun hu => ?_, fun hu => ?_⟩
              · have hu : decide ((lookA (i : Int) es).getD 0 = 1) = true := hu
                rw [decide_eq_true_eq, hseen] at hu
                rw [if_pos hu] at hsn2
                conv => whnf
                repeat ((first | refine ⟨gP_of ⟨by omega, by omega⟩, ?_⟩ | (refine ⟨Nat.le_of_ble_eq_true rfl, fun q' => ?_⟩) | (refine ⟨(by simp; unfold AMAX; omega), fun q' => ⟨_, .here _, ?_⟩⟩)
                               | (refine ⟨(by simp; unfold AMAX; omega), fun q' => ⟨_, .there (.here _), ?_⟩⟩)); conv => whnf)
                first
                  | refine ⟨_, _, Turn.refl _ _, _, (by omega), i + 1, _, [], _, [(q', .tok)], rfl, rfl, rfl, by omega, .inl ⟨by rw [hsn1]; exact he1, rfl, rfl⟩, .inr ⟨q', ?_, rfl⟩⟩
                  | refine ⟨_, _, Turn.refl _ _, _, (by omega), i + 1, _, [(q1, .tok)], _, [(q', .tok)], rfl, rfl, rfl, by omega, .inr ⟨q1, by rw [hsn1], rfl⟩, .inr ⟨q', ?_, rfl⟩⟩
                  | refine ⟨_, _, Turn.sub (h' := [(q1, .tok), (q', .tok), (mb, mapI es)]) (by intro k o hm; simp at hm ⊢; grind) (by simp [keys]; grind), _, (by omega), i + 1, _, [(q1, .tok)], _, [(q', .tok)], rfl, rfl, rfl, by omega, .inr ⟨q1, by rw [hsn1], rfl⟩, .inr ⟨q', ?_, rfl⟩⟩
                rw [hsn2, List.map_append]
                first | done | rfl | (rw [he2]; done) | (rw [he2]; rfl)
              · have hu : decide ((lookA (i : Int) es).getD 0 = 1) = false := hu
                rw [decide_eq_false_iff_not, hseen] at hu
                rw [if_neg hu, List.append_nil] at hsn2
                conv => whnf
                repeat (refine ⟨gP_of ⟨by omega, by omega⟩, ?_⟩; conv => whnf)
                first
                  | exact ⟨_, _, Turn.refl _ _, _, (by omega), i + 1, _, [], _, [], rfl, rfl, rfl, by omega, .inl ⟨by rw [hsn1]; exact he1, rfl, rfl⟩, .inl ⟨by rw [hsn2]; exact he2, rfl, rfl⟩⟩
                  | exact ⟨_, _, Turn.refl _ _, _, (by omega), i + 1, _, [], _, [(q2, .tok)], rfl, rfl, rfl, by omega, .inl ⟨by rw [hsn1]; exact he1, rfl, rfl⟩, .inr ⟨q2, by rw [hsn2], rfl⟩⟩
                  | exact ⟨_, _, Turn.refl _ _, _, (by omega), i + 1, _, [(q1, .tok)], _, [], rfl, rfl, rfl, by omega, .inr ⟨q1, by rw [hsn1], rfl⟩, .inl ⟨by rw [hsn2]; exact he2, rfl, rfl⟩⟩
                  | exact ⟨_, _, Turn.refl _ _, _, (by omega), i + 1, _, [(q1, .tok)], _, [(q2, .tok)], rfl, rfl, rfl, by omega, .inr ⟨q1, by rw [hsn1], rfl⟩, .inr ⟨q2, by rw [hsn2], rfl⟩⟩
        · have hi3 : N = i := by omega
          subst hi3
          have hv1 : VLe ov (.sl 1 none (ints (fixL C N))) := by
            have := hq1.le (by decide)
            unfold fixL keepL
            rw [ints_nat]
            exact this
          have hv2 : VLe ov2 (.sl 1 none (ints (opnL C N))) := by
            have := hq2.le (by decide)
            unfold opnL keepL
            rw [ints_nat]
            exact this
          have hfl : (fixL C N).length ≤ N := keepL_len N _
          have hpl : (opnL C N).length ≤ N := keepL_len N _
          refine region_turn rfl mixed (Turn.trans (Turn.weak (.cons (VLe.refl _) (.cons (VLe.refl _) (.cons hv1 (.cons hv2 (RLe.refl _)))))) (Turn.sublist (List.nil_sublist _))) ?_
          conv => whnf
          skip
          refine ⟨fun hm => ?_, fun hm => ?_⟩ <;> rw [ints_length] at hm <;> simp at hm
          · rw [if_pos (show 16 < (opnL C N).length by omega), if_neg (by decide)]
            conv => whnf
            skip
            exact VLe.tup (.cons (h0n []) (.cons (VLe.refl _) .nil))
          · conv => whnf
            repeat ((refine ⟨gP_of ⟨by rw [ints_length]; omega, by rw [ints_length]; omega⟩, ?_⟩); conv => whnf)
            refine sloop rfl mixed [6, 9, 10, 61, 62] [] (fun m r h => ∃ (n : Nat), r = [(6, [], encCor C), (9, [], .sl 1 none (ints (fixL C N))), (10, [], .sl 1 none (ints (opnL C N))), (61, [], .int .i64 (((ints (opnL C N)).length : Int) + 1)), (62, [], .int .i64 n)] ∧ h = [] ∧ m = (opnL C N).length + 1 - n ∧ n ≤ (opnL C N).length + 1 ∧ smP C N = pickN (pickM (okP C) (fixL C N) (opnL C N)) n ((opnL C N).length + 1 - n)) ?_ ?_
            · conv => whnf
              exact ⟨_, 0, rfl, rfl, rfl, by omega, rfl⟩
            · rintro m r h' ⟨n, rfl, rfl, rfl, hn, hp⟩
              conv => whnf
              refine ⟨fun hn2 => ?_, fun hn2 => ?_⟩ <;> rw [ints_length] at hn2 <;> simp at hn2
              · obtain ⟨k, hk⟩ : ∃ k, (opnL C N).length + 1 - n = k + 1 := ⟨(opnL C N).length - n, by omega⟩
                rw [hk, pickN] at hp
                have hfew := fewestA hcf hCl n (fixL C N) (opnL C N) (by omega) (by omega)
                conv => whnf
                repeat (refine QCall.k0 (hfew) ?_; conv => whnf)
                refine ⟨fun hq => ?_, fun hq => ?_⟩
                · obtain ⟨p, hpp⟩ := Option.isSome_iff_exists.1 hq
                  rw [hpp] at hp
                  simp only at hp
                  rw [fewL_some hpp]
                  have e1 : (if 16 < (opnL C N).length then (2 : Int) else if (smP C N).isSome = true then 0 else 52) = 0 := by rw [if_neg (by omega), if_pos (by rw [hp]; rfl)]
                  rw [e1, if_pos rfl, hp]
                  conv => whnf
                  skip
                  exact VLe.refl _
                · have hpn := Option.isSome_eq_false_iff.1 hq
                  rw [Option.isNone_iff_eq_none] at hpn
                  rw [hpn] at hp
                  simp only at hp
                  conv => whnf
                  repeat (refine ⟨gP_of ⟨by omega, by omega⟩, ?_⟩; conv => whnf)
                  exact ⟨_, by omega, n + 1, rfl, rfl, rfl, by omega, by rw [show (opnL C N).length + 1 - (n + 1) = k by omega]; exact hp⟩
              · rw [show (opnL C N).length + 1 - n = 0 by omega, pickN] at hp
                have e1 : (if 16 < (opnL C N).length then (2 : Int) else if (smP C N).isSome = true then 0 else 52) = 52 := by rw [if_neg (by omega), if_neg (by rw [hp]; decide)]
                rw [e1, if_neg (by decide)]
                conv => whnf
                skip
                exact VLe.tup (.cons (h0n []) (.cons (VLe.refl _) .nil))
  · have he : smErr H lines = corErr H lines := by rw [smErr, if_pos h0]
    rw [smL, he, if_neg h0]
    refine QCall.of ?_
    refine fcalls (F := Tryz.f47) c47 rfl rfl rfl mixed rfl fun X => ?_
    conv => whnf
    repeat (refine QCall.k0 (ho) ?_; conv => whnf)
    refine cT (by simpa using h0) ?_
    conv => whnf
    skip
    exact VLe.tup (.cons (h0n []) (.cons (VLe.refl _) .nil))
end Go.Abs.Wall.Lst
set_option maxRecDepth 100000
set_option maxHeartbeats 2000000
set_option linter.unusedVariables false
set_option linter.unusedSimpArgs false
namespace Go.Abs.Wall.Lst
open Go Go.Abs Go.Proofs Go.Abs.Wall
/-! ### laws: Smallest, Fewest -/
theorem keepL_all (N : Nat) : (keepL N everyW).length = N := by
  unfold keepL
  rw [List.length_map, show (List.range N).filter (keepF everyW) = List.range N from List.filter_eq_self.2 fun a _ => rfl, List.length_range]
def c15 : Cfg := ⟨[0, 1, 2, 4, 5, 6, 7, 8, 11], [], [], [], [], []⟩
def c16 : Cfg := ⟨[0, 1, 2, 3, 6, 7, 8, 9, 10, 11, 12, 15, 24, 56], [], [], [], [], []⟩
theorem refSmallest (H : Hou) (lines : List (List Int)) (hf : CorFit H lines) :
    QCall Tryz.prog 48 [.agg (encHou H), .sl 1 none (lines.map encIs)] [] (.tup [.sl 1 none (ints (smL H lines)), .int .i64 (smErr H lines)]) := by
  have ho := refCheckC H lines hf
  have h0n : ∀ l : List Int, VLe .nilS (.sl 1 none (ints ([] : List Int))) := fun _ => VLe.nil (by decide)
  by_cases h0 : corErr H lines = 0
  · have hok := cor_ok h0
    have hwd := refWorld H lines hf h0
    have hef := efit h0
    have hll := hf.lines
    rw [h0] at ho
    have hNf : H.lex.entries.length ≤ 200 := (houOK (corErr_zero h0).1).lex.many.1
    obtain ⟨N, hN⟩ : ∃ N, N = H.lex.entries.length := ⟨_, rfl⟩
    have hNe : (H.lex.entries.map encEnt).length = N := by rw [List.length_map, hN]
    have hev := refEvery N (by omega)
    obtain ⟨G, hG⟩ : ∃ G, G = lines.map (graphM H) := ⟨_, rfl⟩
    have hGl : G.length ≤ 1048576 := by rw [hG, List.length_map]; omega
    have hGc : G.map lnks = corM H lines := by rw [hG]; exact lnks_cor H lines
    have hgk : ∀ g ∈ G, EFit g ∧ GOK g := by
      intro g hg
      refine ⟨hef g (by rw [← hG]; exact hg), ?_⟩
      rw [hG] at hg
      obtain ⟨l, hl, rfl⟩ := List.mem_map.1 hg
      exact (growOK ((corErr_zero h0).2.2 l hl)).2.2
    obtain ⟨C, hC⟩ : ∃ C, C = corM H lines := ⟨_, rfl⟩
    rw [← hG] at hef hwd
    rw [← hC] at hGc hok
    rw [← hN] at hok hNf
    have hkl : ∀ w, (keepL N w).length ≤ 1048576 := fun w => by have := keepL_len N w; omega
    have hall : ∀ w, QCall Tryz.prog 65 [.iptr (encWld H G), .sl 1 none (ints (keepL N w))] [] (.bool (allB C w)) := by
      intro w
      have := refAll (H := H) hef hGl (keepL N w) (by have := hkl w; unfold LMAX; omega)
      rwa [hGc, allB_mem hok] at this
    have hal0 := hall everyW
    have hus := fun e => refUsed (H := H) hgk hGl e
    rw [hGc] at hus
    cases h1 : allB C everyW with
    | false =>
      rw [h1] at hal0
      have he : smErr H lines = 52 := by rw [smErr, if_neg (by omega), ← hC, if_pos h1]
      rw [smL, he, if_neg (by decide)]
      refine QCall.of ?_
      refine fcalls (F := Tryz.f48) c48 rfl rfl rfl mixed rfl fun X => ?_
      conv => whnf
      repeat (refine QCall.k0 (ho) ?_; conv => whnf)
      refine cF rfl ?_
      conv => whnf
      repeat (refine QCall.k0 (hwd) ?_; conv => whnf)
      rw [show (((H.lex.entries.map encEnt).length : Nat) : Int) = (N : Int) by rw [hNe]]
      repeat ((first | refine QCall.k0 (hev) ?_ | refine QCall.k0 (hal0) ?_); conv => whnf)
      refine cT rfl ?_
      conv => whnf
      skip
      exact VLe.tup (.cons (h0n []) (.cons (VLe.refl _) .nil))
    | true =>
      rw [h1] at hal0
      have hse : smErr H lines = if 16 < (opnL C N).length then 2 else if (smP C N).isSome = true then 0 else 52 := by
        rw [smErr, if_neg (by omega), ← hC, if_neg (by rw [h1]; decide), ← hN]
      have hsl : smL H lines = if smErr H lines = 0 then sortI ((smP C N).getD []) else [] := by
        rw [smL, ← hN, ← hC]
      rw [hsl, hse]
      have hk0 := keepL_all N
      have hol1 : ∀ i, ((List.range i).filter (keepF (fixW C))).length ≤ i := fun i => filter_len i
      have hol2 : ∀ i, ((List.range i).filter (keepF (opnW C))).length ≤ i := fun i => filter_len i
      refine QCall.of ?_
      refine fcalls (F := Tryz.f48) c48 rfl rfl rfl mixed rfl fun X => ?_
      conv => whnf
      repeat (refine QCall.k0 (ho) ?_; conv => whnf)
      refine cF rfl ?_
      conv => whnf
      repeat (refine QCall.k0 (hwd) ?_; conv => whnf)
      rw [show (((H.lex.entries.map encEnt).length : Nat) : Int) = (N : Int) by rw [hNe]]
      repeat ((first | refine QCall.k0 (hev) ?_ | refine QCall.k0 (hal0) ?_); conv => whnf)
      refine cF rfl ?_
      conv => whnf
      skip
      refine tloop rfl mixed [7, 8, 9, 10, 11] [] (fun m r h => ∃ (i : Nat) (ov : AV) (oh : Heap) (ov2 : AV) (oh2 : Heap), r = [(7, [], .iptr (encWld H G)), (8, [], .sl 1 none (ints (keepL N everyW))), (9, [], ov), (10, [], ov2), (11, [], .int .i64 i)] ∧ h = oh ++ oh2 ∧ m = N - i ∧ i ≤ N ∧ Out 1 encNat ((List.range i).filter (keepF (fixW C))) ov oh ∧ Out 1 encNat ((List.range i).filter (keepF (opnW C))) ov2 oh2) ?_ ?_
      · conv => whnf
        exact ⟨_, _, Turn.refl _ _, _, 0, .nilS, [], .nilS, [], rfl, rfl, rfl, by omega, .inl ⟨rfl, rfl, rfl⟩, .inl ⟨rfl, rfl, rfl⟩⟩
      · rintro m r h' ⟨i, ov, oh, ov2, oh2, rfl, rfl, rfl, hi, hq1, hq2⟩
        conv => whnf
        refine ⟨fun hi2 => ?_, fun hi2 => ?_⟩ <;> rw [ints_length, hk0] at hi2 <;> simp only [decide_eq_true_eq, decide_eq_false_iff_not] at hi2
        · have hi3 : i < N := by omega
          have hsn1 := filter_snoc (p := keepF (fixW C)) i
          have hsn2 := filter_snoc (p := keepF (opnW C)) i
          have hl1 := hol1 i
          have hl2 := hol2 i
          have hk1 : keepF (fixW C) i = !allB C (but everyW i) := rfl
          have hk2 : keepF (opnW C) i = (allB C (but everyW i) && usedB C i) := rfl
          have hwo := refWithout (keepL N everyW) i (hkl _)
          rw [without_keep] at hwo
          have hal := hall (but everyW i)
          have hu1 := hus i
          rcases hq1 with ⟨he1, rfl, rfl⟩ | ⟨q1, rfl, rfl⟩ <;> rcases hq2 with ⟨he2, rfl, rfl⟩ | ⟨q2, rfl, rfl⟩
          all_goals
            conv => whnf
            repeat ((first | refine QCall.k0 (hwo) ?_ | refine QCall.k0 (hal) ?_); conv => whnf)
            refine ⟨fun hq => ?_, fun hq => ?_⟩
            · have hq : (!allB C (but everyW i)) = true := hq
              have hq' : allB C (but everyW i) = false := by simpa using hq
              rw [hk1, if_pos hq] at hsn1
              rw [hk2, hq', Bool.false_and, if_neg (by decide), List.append_nil] at hsn2
              conv => whnf
              repeat ((first | refine ⟨gP_of ⟨by omega, by omega⟩, ?_⟩ | (refine ⟨Nat.le_of_ble_eq_true rfl, fun q' => ?_⟩) | (refine ⟨(by simp; unfold AMAX; omega), fun q' => ⟨_, .here _, ?_⟩⟩)); conv => whnf)
              first
                | refine ⟨_, _, Turn.refl _ _, _, (by omega), i + 1, _, [(q', .tok)], _, [], rfl, rfl, rfl, by omega, .inr ⟨q', ?_, rfl⟩, .inl ⟨by rw [hsn2]; exact he2, rfl, rfl⟩⟩
                | refine ⟨_, _, Turn.refl _ _, _, (by omega), i + 1, _, [(q', .tok)], _, [(q2, .tok)], rfl, rfl, rfl, by omega, .inr ⟨q', ?_, rfl⟩, .inr ⟨q2, by rw [hsn2], rfl⟩⟩
              rw [hsn1, List.map_append]
              first | done | rfl | (rw [he1]; done) | (rw [he1]; rfl)
            · have hq : (!allB C (but everyW i)) = false := hq
              have hq' : allB C (but everyW i) = true := by simpa using hq
              rw [hk1, if_neg (by rw [hq]; decide), List.append_nil] at hsn1
              rw [hk2, hq', Bool.true_and] at hsn2
              conv => whnf
              repeat (refine QCall.k0 (hu1) ?_; conv => whnf)
              refine ⟨fun hu => ?_, fun hu => ?_⟩
              · have hu : usedB C i = true := hu
                rw [if_pos hu] at hsn2
                conv => whnf
                repeat ((first | refine ⟨gP_of ⟨by omega, by omega⟩, ?_⟩ | (refine ⟨Nat.le_of_ble_eq_true rfl, fun q' => ?_⟩) | (refine ⟨(by simp; unfold AMAX; omega), fun q' => ⟨_, .here _, ?_⟩⟩)
                               | (refine ⟨(by simp; unfold AMAX; omega), fun q' => ⟨_, .there (.here _), ?_⟩⟩)); conv => whnf)
                first
                  | refine ⟨_, _, Turn.refl _ _, _, (by omega), i + 1, _, [], _, [(q', .tok)], rfl, rfl, rfl, by omega, .inl ⟨by rw [hsn1]; exact he1, rfl, rfl⟩, .inr ⟨q', ?_, rfl⟩⟩
                  | refine ⟨_, _, Turn.refl _ _, _, (by omega), i + 1, _, [(q1, .tok)], _, [(q', .tok)], rfl, rfl, rfl, by omega, .inr ⟨q1, by rw [hsn1], rfl⟩, .inr ⟨q', ?_, rfl⟩⟩
                  | refine ⟨_, _, Turn.sub (h' := [(q1, .tok), (q', .tok)]) (by intro k o hm; simp at hm ⊢; grind) (by simp [keys]; grind), _, (by omega), i + 1, _, [(q1, .tok)], _, [(q', .tok)], rfl, rfl, rfl, by omega, .inr ⟨q1, by rw [hsn1], rfl⟩, .inr ⟨q', ?_, rfl⟩⟩
                rw [hsn2, List.map_append]
                first | done | rfl | (rw [he2]; done) | (rw [he2]; rfl)
              · have hu : usedB C i = false := hu
                rw [if_neg (by rw [hu]; decide), List.append_nil] at hsn2
                conv => whnf
                repeat (refine ⟨gP_of ⟨by omega, by omega⟩, ?_⟩; conv => whnf)
                first
                  | exact ⟨_, _, Turn.refl _ _, _, (by omega), i + 1, _, [], _, [], rfl, rfl, rfl, by omega, .inl ⟨by rw [hsn1]; exact he1, rfl, rfl⟩, .inl ⟨by rw [hsn2]; exact he2, rfl, rfl⟩⟩
                  | exact ⟨_, _, Turn.refl _ _, _, (by omega), i + 1, _, [], _, [(q2, .tok)], rfl, rfl, rfl, by omega, .inl ⟨by rw [hsn1]; exact he1, rfl, rfl⟩, .inr ⟨q2, by rw [hsn2], rfl⟩⟩
                  | exact ⟨_, _, Turn.refl _ _, _, (by omega), i + 1, _, [(q1, .tok)], _, [], rfl, rfl, rfl, by omega, .inr ⟨q1, by rw [hsn1], rfl⟩, .inl ⟨by rw [hsn2]; exact he2, rfl, rfl⟩⟩
                  | exact ⟨_, _, Turn.refl _ _, _, (by omega), i + 1, _, [(q1, .tok)], _, [(q2, .tok)], rfl, rfl, rfl, by omega, .inr ⟨q1, by rw [hsn1], rfl⟩, .inr ⟨q2, by rw [hsn2], rfl⟩⟩
        · have hi3 : N = i := by omega
          subst hi3
          have hv1 : VLe ov (.sl 1 none (ints (fixL C N))) := by
            have := hq1.le (by decide)
            unfold fixL keepL
            rw [ints_nat]
            exact this
          have hv2 : VLe ov2 (.sl 1 none (ints (opnL C N))) := by
            have := hq2.le (by decide)
            unfold opnL keepL
            rw [ints_nat]
            exact this
          have hfl : (fixL C N).length ≤ N := keepL_len N _
          have hpl : (opnL C N).length ≤ N := keepL_len N _
          have hsr := smP_R C N
          refine region_turn rfl mixed (Turn.trans (Turn.weak (.cons (VLe.refl _) (.cons (VLe.refl _) (.cons hv1 (.cons hv2 (RLe.refl _)))))) (Turn.sublist (List.nil_sublist _))) ?_
          conv => whnf
          skip
          refine ⟨fun hm => ?_, fun hm => ?_⟩ <;> rw [ints_length] at hm <;> simp at hm
          · rw [if_pos (show 16 < (opnL C N).length by omega), if_neg (by decide)]
            conv => whnf
            skip
            exact VLe.tup (.cons (h0n []) (.cons (VLe.refl _) .nil))
          · conv => whnf
            skip
            refine sloop rfl mixed [7, 9, 10, 12] [] (fun m r h => ∃ (n : Nat), r = [(7, [], .iptr (encWld H G)), (9, [], .sl 1 none (ints (fixL C N))), (10, [], .sl 1 none (ints (opnL C N))), (12, [], .int .i64 n)] ∧ h = [] ∧ m = (opnL C N).length + 1 - n ∧ n ≤ (opnL C N).length + 1 ∧ smR C N = pickN (pickM (okR C N (fixL C N)) [] (opnL C N)) n ((opnL C N).length + 1 - n)) ?_ ?_
            · conv => whnf
              exact ⟨_, 0, rfl, rfl, rfl, by omega, rfl⟩
            · rintro m r h' ⟨n, rfl, rfl, rfl, hn, hp⟩
              conv => whnf
              refine ⟨fun hn2 => ?_, fun hn2 => ?_⟩ <;> rw [ints_length] at hn2 <;> simp at hn2
              · obtain ⟨k, hk⟩ : ∃ k, (opnL C N).length + 1 - n = k + 1 := ⟨(opnL C N).length - n, by omega⟩
                rw [hk, pickN] at hp
                have hfew := refPickA (H := H) hef hGl (by omega) (fixL C N) (opnL C N) (by omega) (by omega) n 0 [] (by simp; omega) (by omega)
                rw [hGc, ← hN, List.drop_zero] at hfew
                conv => whnf
                repeat ((refine QCall.k0 (QCall.args hfew (.cons (VLe.refl _) (.cons (VLe.refl _) (.cons (VLe.refl _) (.cons (h0n []) (VsLe.refl _)))))) ?_); conv => whnf)
                refine ⟨fun hq => ?_, fun hq => ?_⟩
                · obtain ⟨p, hpp⟩ := Option.isSome_iff_exists.1 hq
                  rw [hpp] at hp
                  simp only at hp
                  obtain ⟨s, hs1, _, hs2, _⟩ := pickM_some _ _ _ _ hpp
                  rw [List.nil_append] at hs2
                  subst hs2
                  rw [hp] at hsr
                  rw [pickL_some hpp]
                  have e1 : (if 16 < (opnL C N).length then (2 : Int) else if (smP C N).isSome = true then 0 else 52) = 0 := by rw [if_neg (by omega), if_pos (by rw [hsr]; rfl)]
                  rw [e1, if_pos rfl, hsr]
                  conv => whnf
                  skip
                  refine VLe.tup (.cons ?_ (.cons (VLe.refl _) .nil))
                  show VLe _ (.sl 1 none (ints (sortI (fixL C N ++ p))))
                  rw [sel_sort hs1]
                  exact VLe.refl _
                · have hpn := Option.isSome_eq_false_iff.1 hq
                  rw [Option.isNone_iff_eq_none] at hpn
                  rw [hpn] at hp
                  simp only at hp
                  conv => whnf
                  repeat (refine ⟨gP_of ⟨by omega, by omega⟩, ?_⟩; conv => whnf)
                  exact ⟨_, by omega, n + 1, rfl, rfl, rfl, by omega, by rw [show (opnL C N).length + 1 - (n + 1) = k by omega]; exact hp⟩
              · rw [show (opnL C N).length + 1 - n = 0 by omega, pickN] at hp
                have e1 : (if 16 < (opnL C N).length then (2 : Int) else if (smP C N).isSome = true then 0 else 52) = 52 := by rw [if_neg (by omega), if_neg (by rw [hsr, hp]; simp)]
                rw [e1, if_neg (by decide)]
                conv => whnf
                skip
                exact VLe.tup (.cons (h0n []) (.cons (VLe.refl _) .nil))
  · have he : smErr H lines = corErr H lines := by rw [smErr, if_pos h0]
    rw [smL, he, if_neg h0]
    refine QCall.of ?_
    refine fcalls (F := Tryz.f48) c48 rfl rfl rfl mixed rfl fun X => ?_
    conv => whnf
    repeat (refine QCall.k0 (ho) ?_; conv => whnf)
    refine cT (by simpa using h0) ?_
    conv => whnf
    skip
    exact VLe.tup (.cons (h0n []) (.cons (VLe.refl _) .nil))
theorem smP_len {C : Cor} {N : Nat} {l : List Int} (h : smP C N = some l) : l.length ≤ 2 * N := by
  obtain ⟨m, _, _, h2, _⟩ := pickN_some _ _ _ h
  obtain ⟨s, h4, _, rfl, _⟩ := pickM_some _ _ _ _ h2
  have h5 := h4.length_le
  have h6 : (fixL C N).length ≤ N := keepL_len N _
  have h7 : (opnL C N).length ≤ N := keepL_len N _
  rw [List.length_append]
  omega
theorem smErr_zero {H : Hou} {lines : List (List Int)} (h : smErr H lines = 0) : corErr H lines = 0 ∧ allB (corM H lines) everyW = true ∧ ∃ l, smP (corM H lines) H.lex.entries.length = some l ∧ smL H lines = sortI l := by
  have h9 := h
  unfold smErr at h
  split at h
  · rename_i h1; exact absurd h h1
  rename_i h1
  split at h
  · cases h
  rename_i h2
  split at h
  · cases h
  split at h
  · rename_i h3
    obtain ⟨l, hl⟩ := Option.isSome_iff_exists.1 h3
    refine ⟨by omega, by simpa using h2, l, hl, ?_⟩
    rw [smL, if_pos h9, hl]
    rfl
  · cases h
theorem smL_len {H : Hou} {lines : List (List Int)} (hf : CorFit H lines) : (smL H lines).length ≤ 1048576 := by
  by_cases h : smErr H lines = 0
  · obtain ⟨h0, _, l, hl, he⟩ := smErr_zero h
    have hNf : H.lex.entries.length ≤ 200 := (houOK (corErr_zero h0).1).lex.many.1
    have := smP_len hl
    rw [he, sortI_len]
    omega
  · rw [smL, if_neg h]
    simp
theorem induceSmallestL (H : Hou) (lines : List (List Int)) (hf : CorFit H lines) : QCall Tryz.prog 15 [.agg (encHou H), .sl 1 none (lines.map encIs)] [] (.bool true) := by
  have hl := smL_len hf
  have hsi := sameInts10 (smL H lines) (smL H lines) (by unfold LMAX; omega) (by unfold LMAX; omega)
  refine QCall.of' ?_
  refine fcalls (F := Tryz.f15) c15 rfl rfl rfl mixed rfl fun X => ?_
  conv => whnf
  repeat (refine QCall.k0 (heavyW H lines hf.lines) ?_; conv => whnf)
  refine ⟨fun hq => ?_, fun hq => ?_⟩
  · conv => whnf
    repeat (refine QCall.k0 (worksI) ?_; conv => whnf)
  · conv => whnf
    repeat ((first | refine QCall.k0 (smallestA H lines hf) ?_ | refine QCall.k0 (refSmallest H lines hf) ?_ | refine gcall (hsi) ?_ | refine gcall (worksI) ?_); conv => whnf)
    simp
theorem okP_eq (C : Cor) : okP C = fun l => allB C (memW l) := by
  funext l
  unfold okP
  congr 1
  funext x
  unfold memW
  rw [decide_eq_decide]
  exact (sortI_perm l).mem_iff
theorem few_len {H : Hou} {lines : List (List Int)} (h : smErr H lines = 0) {keep : List Int} (hk : keep.Pairwise (· < ·) ∧ ∀ x ∈ keep, 0 ≤ x ∧ x < H.lex.entries.length) (ha : allB (corM H lines) (memW keep) = true) : (smL H lines).length ≤ keep.length := by
  obtain ⟨h0, _, l, hl, he⟩ := smErr_zero h
  have hc := cor_ok h0
  rw [he, sortI_len]
  unfold smP at hl
  rw [okP_eq] at hl
  refine pick_fewest hc (fun e => ?_) (fun e => ?_) (up_nodup keepL_up) (up_nodup keepL_up) (up_nodup hk.1) hk.2 ha hl
  · unfold fixW
    rw [keepL_mem]
    simp
  · unfold opnW
    rw [keepL_mem, Bool.and_eq_true, usedB_iff hc]
theorem few_ok {H : Hou} {lines : List (List Int)} (h : smErr H lines = 0) : begErr H lines (smL H lines) = 0 ∧ allB (corM H lines) (memW (smL H lines)) = true := by
  obtain ⟨h0, _, l, hl, he⟩ := smErr_zero h
  obtain ⟨m, _, _, h2, _⟩ := pickN_some _ _ _ hl
  obtain ⟨s, h4, _, rfl, h5⟩ := pickM_some _ _ _ _ h2
  rw [he]
  refine ⟨?_, h5⟩
  unfold begErr
  rw [if_neg (by omega), if_pos]
  rw [risM_iff]
  refine ⟨sortI_up (fix_opn h4), fun x hx => ?_⟩
  rw [(sortI_perm _).mem_iff, List.mem_append] at hx
  rcases hx with hx | hx
  · have := keepL_mem.1 hx
    exact ⟨this.1, this.2.1⟩
  · have := keepL_mem.1 (h4.subset hx)
    exact ⟨this.1, this.2.1⟩
theorem readL_all {H : Hou} {lines : List (List Int)} {keep : List Int} (h : begErr H lines keep = 0) : (readL H lines keep).all id = allB (corM H lines) (memW keep) := by
  unfold readL allB
  rw [if_pos h, List.all_map]
  rfl
theorem readL_len' {H : Hou} {lines : List (List Int)} (hf : CorFit H lines) (keep : List Int) : (readL H lines keep).length ≤ 1048576 := by
  unfold readL
  split
  · rw [List.length_map, cor_len]; exact hf.lines
  · simp
theorem induceFewestL (H : Hou) (lines : List (List Int)) (keep : List Int) (hf : CorFit H lines) (hk : keep.length ≤ 1048576) : QCall Tryz.prog 16 [.agg (encHou H), .sl 1 none (lines.map encIs), .sl 1 none (ints keep)] [] (.bool true) := by
  have hl := smL_len hf
  refine QCall.of' ?_
  refine fcalls (F := Tryz.f16) c16 rfl rfl rfl mixed rfl fun X => ?_
  conv => whnf
  repeat (refine QCall.k0 (heavyW H lines hf.lines) ?_; conv => whnf)
  refine ⟨fun hq => ?_, fun hq => ?_⟩
  · conv => whnf
    repeat (refine QCall.k0 (worksI) ?_; conv => whnf)
  by_cases h0 : smErr H lines ≠ 0
  · conv => whnf
    repeat (refine QCall.k0 (smallestA H lines hf) ?_; conv => whnf)
    refine cT (by simpa using h0) ?_
    conv => whnf
    repeat (refine QCall.k0 (worksI) ?_; conv => whnf)
  have h0 : smErr H lines = 0 := by omega
  obtain ⟨hb, ha⟩ := few_ok h0
  obtain ⟨hc0, hae, _⟩ := smErr_zero h0
  have hi0 : indErr H lines = 0 := by unfold indErr; rw [if_neg (by omega), if_pos hae]
  have hR := ReadableW H lines (smL H lines) hf hl
  have hRk := ReadableW H lines keep hf hk
  have hIn := induceW H lines hf
  have hal := lallW (readL H lines (smL H lines)) (readL_len' hf _)
  have halk := lallW (readL H lines keep) (readL_len' hf _)
  rw [hb] at hR
  rw [hi0] at hIn
  have hge : (smL H lines).length ≤ (indR H lines).length := by
    have hR : indR H lines = indL (corM H lines) H.lex.entries.length := by unfold indR; rw [if_pos hi0]
    have h1 := few_len h0 (keep := keepL H.lex.entries.length (indW (corM H lines) H.lex.entries.length)) ⟨keepL_up, fun x hx => by have := keepL_mem.1 hx; exact ⟨this.1, this.2.1⟩⟩ (by
      rw [allB_mem (cor_ok hc0)]
      exact indGo_all _ everyW hae)
    rw [hR]
    unfold indL
    rw [List.length_map]
    exact h1
  conv => whnf
  repeat (refine QCall.k0 (smallestA H lines hf) ?_; conv => whnf)
  refine cF (by rw [h0]; rfl) ?_
  conv => whnf
  repeat ((first | refine QCall.k0 (hR) ?_ | refine QCall.k0 (hIn) ?_ | refine gcall (hal) ?_); conv => whnf)
  rw [readL_all hb, ha]
  have hd : decide (((indR H lines).length : Int) < ((smL H lines).length : Int)) = false := decide_eq_false (by omega)
  refine cF (by rw [List.length_map, ints_length, hd]; rfl) ?_
  conv => whnf
  repeat ((first | refine QCall.k0 (hRk) ?_ | refine gcall (halk) ?_ | refine gcall (worksI) ?_); conv => whnf)
  refine congrArg AV.bool ?_
  by_cases hbk : begErr H lines keep = 0
  · rw [readL_all hbk]
    cases hak : allB (corM H lines) (memW keep) with
    | false => simp
    | true =>
      have hle := few_len h0 (risM_iff.1 (begErr_zero hbk).2) hak
      simp [ints_length]
      omega
  · simp [hbk]
end Go.Abs.Wall.Lst

