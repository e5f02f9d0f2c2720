/- What is proved: small laws for the walks of this seat, and contracts of its functions. No condition but those each theorem names. -/
import Derived.Test.YtoncocddopjjcaaGreatN11
set_option maxRecDepth 100000
set_option linter.unusedVariables false
set_option linter.unusedSimpArgs false
namespace Go.Abs.Wall
open Go Go.Abs Go.Proofs
theorem reach_get (g : List (List Edg)) (want : Nat → Nat → Bool) : (reachM g want)[g.length]? = some ((reachM g want).getD g.length false) := by
  have h := reachM_len g want
  rw [List.getD_eq_getElem?_getD]
  cases he : (reachM g want)[g.length]? with
  | some b => rfl
  | none => rw [List.getElem?_eq_none_iff] at he; omega
end Go.Abs.Wall
set_option maxRecDepth 100000
set_option linter.unusedVariables false
set_option linter.unusedSimpArgs false
namespace Go.Abs.Wall
open Go Go.Abs Go.Proofs
def c79 : Cfg := ⟨[0, 1, 4, 5, 6, 7, 8, 9, 21, 22, 23, 24, 28, 29, 30, 31, 44], [], [9], [], [], []⟩
def c90 : Cfg := ⟨[4], [], [], [], [], []⟩
def c80 : Cfg := ⟨[0, 1, 2, 3, 6], [], [], [], [], []⟩
def c81 : Cfg := ⟨[0, 1, 2], [1], [2], [], [], []⟩
def c50 : Cfg := ⟨[0, 1, 2, 4, 5, 6, 7, 8, 9, 11, 19, 26, 27, 28, 29, 33, 34, 35, 36, 53], [], [11], [], [(11, [0, 1, 2, 3, 4, 5, 6, 7, 8, 9, 10, 11, 12, 13, 14], [])], []⟩
def c41 : Cfg := ⟨[0, 1, 2, 4, 5, 6, 7, 8, 9, 10, 11, 18, 22, 33, 34, 35, 36, 40, 41, 42, 43, 55], [], [7, 9, 10], [], [], []⟩
def c53 : Cfg := ⟨[0, 1, 2, 4, 5, 6, 7, 8, 9, 10, 18, 21, 22, 23, 24, 28], [], [], [], [], []⟩
theorem allW (a k : Nat) : QCall Tryz.prog 90 [.int .i64 a, .int .i64 k] [] (.bool (wantAll a k)) := by
  refine fcalls (F := Tryz.f90) c90 rfl rfl rfl mixed rfl fun X => ?_
  conv => whnf
  exact ⟨rfl, rfl⟩
theorem certWant (i k a b : Nat) : QCall Tryz.prog 80 [.int .i64 a, .int .i64 b, .iptr [.int .i64 i], .iptr [.int .i64 k]] [] (.bool (wantE i k a b)) := by
  refine fcalls (F := Tryz.f80) c80 rfl rfl rfl mixed rfl fun X => ?_
  conv => whnf
  skip
  exact ⟨rfl, rfl⟩
theorem copiedW (x : Edg) (h : WrdFit x.word) : QCall Tryz.prog 81 [.agg (encEdg x)] [] (.agg (encEdg x)) := by
  have h1 := h.cl; have h2 := h.us
  refine QCall.of' ?_
  refine fcalls (F := Tryz.f81) c81 rfl rfl rfl mixed rfl fun X => ?_
  conv => whnf
  intro b1
  conv => whnf
  intro b2
  conv => whnf
  repeat ((first | refine QCall.k0 (wordW x.word (by unfold AMAX; omega) (by unfold AMAX; omega)) ?_ | refine ⟨_, _, Rem.here _, ⟨Nat.le_of_ble_eq_true rfl, rfl⟩, ?_⟩ | refine ⟨_, _, .tail _ (.head _), rfl, ?_⟩
                 | refine ⟨_, _, .there (.here _), leOK, ?_⟩); conv => whnf)
  rfl
theorem reachedW (g : List (List Edg)) (f : FuncId) (caps : List AV) (want : Nat → Nat → Bool) (hg : GOK g) (hw : ∀ a k : Nat, QCall Tryz.prog f (.int .i64 a :: .int .i64 k :: caps) [] (.bool (want a k))) :
    QCall Tryz.prog 79 [.iptr (encForest g (restT g)), .fn f caps] [] (.sl 1 none ((reachM g want).map encB)) := by
  have hfew := hg.few
  have hrl := restT_len g
  refine boolRow (h := []) (reachM_len g _) ?_
  refine fcalls (F := Tryz.f79) c79 rfl rfl rfl mixed rfl fun X => ?_
  conv => whnf
  repeat ((refine ⟨⟨rfl, by rw [ints_length]; omega, by rw [ints_length]; omega⟩, fun b => ?_⟩); conv => whnf)
  rw [boolRow0, show (((ints (restT g)).length : Int)).toNat = g.length + 1 by rw [ints_length]; omega]
  repeat ((first | (refine ixo (i := 0) (by omega) ?_) | (refine stE true (by decide) encB_len (i := 0) (by simp) (Nat.zero_add _) rfl (.here _) ?_)); conv => whnf)
  obtain ⟨l0, hl0⟩ : ∃ l, l = (List.replicate (g.length + 1) false).set 0 true := ⟨_, rfl⟩
  have hrm : reachM g want = reachGo want g 0 l0 := by rw [hl0]; rfl
  rw [← hl0, hrm]
  refine sloop rfl mixed [1, 5, 21, 22, 23] [] (fun m r h => ∃ (i : Nat) (l : List Bool), r = [(1, [], .fn f caps), (5, [], .osl b 0 (g.length + 1) 1), (21, [], .sl 1 none (g.map encEdgs)), (22, [], .int .i64 (g.map encEdgs).length), (23, [], .int .i64 i)] ∧ h = [(b, .vec (l.map encB).flatten)] ∧ m = g.length - i ∧ i ≤ g.length ∧ l.length = g.length + 1 ∧ reachGo want g 0 l0 = reachGo want (g.drop i) i l) ?_ ?_
  · conv => whnf
    exact ⟨_, 0, l0, rfl, rfl, rfl, by omega, by rw [hl0]; simp, rfl⟩
  · rintro m r h ⟨i, l, rfl, rfl, rfl, hi, hl, hgo⟩
    conv => whnf
    refine ⟨fun hi2 => ?_, fun hi2 => ?_⟩ <;> simp at hi2
    · obtain ⟨es, hes⟩ := get_lt hi2
      have hmany := hg.many i es hes
      rw [drop_cons hes, reachGo] at hgo
      conv => whnf
      repeat (refine ix (by assumption) ?_; conv => whnf)
      refine sloop rfl mixed [1, 5, 6, 21, 22, 23, 28, 29, 30] [] (fun m r h => ∃ (k : Nat) (l : List Bool), r = [(1, [], .fn f caps), (5, [], .osl b 0 (g.length + 1) 1), (6, [], .int .i64 i), (21, [], .sl 1 none (g.map encEdgs)), (22, [], .int .i64 (g.map encEdgs).length), (23, [], .int .i64 i), (28, [], .sl 7 none (es.map encEdg)), (29, [], .int .i64 (es.map encEdg).length), (30, [], .int .i64 k)] ∧ h = [(b, .vec (l.map encB).flatten)] ∧ m = es.length - k ∧ k ≤ es.length ∧ l.length = g.length + 1 ∧ reachGo want g 0 l0 = reachGo want (g.drop (i + 1)) (i + 1) (markK want i (es.drop k) k l)) ?_ ?_
      · conv => whnf
        exact ⟨_, 0, l, rfl, rfl, rfl, by omega, hl, hgo⟩
      · clear hgo hl
        rintro m r h ⟨k, l, rfl, rfl, rfl, hk, hl, hgo⟩
        obtain ⟨li, hli⟩ := get_lt (l := l) (i := i) (by omega)
        have hgd := getD_of (d := false) hli
        conv => whnf
        refine ⟨fun hc => ?_, fun hc => ?_⟩ <;> simp at hc
        · obtain ⟨x, hx⟩ := get_lt hc
          have hxo := hg.edge i es hes x (List.mem_of_getElem? hx)
          have h1 := hxo.lo
          have h2 := hxo.hi
          rw [drop_cons hx, markK, hgd] at hgo
          have hwk := hw i k
          conv => whnf
          repeat ((first | refine ix (by assumption) ?_ | (intro (b9 : Nat)) | (refine ixo (i := i) (by omega) ?_) | (refine ldE encB_len (.head _) (Nat.zero_add _) hli ?_) | refine gcall (hwk) ?_
                         | refine ⟨_, _, Rem.here _, ⟨Nat.le_of_ble_eq_true rfl, rfl⟩, ?_⟩); conv => whnf)
          refine ⟨fun hq => ?_, fun hq => ?_⟩
          · have hq : (li && want i k) = true := hq
            rw [if_pos hq] at hgo
            conv => whnf
            repeat ((first | refine ⟨gP_of ⟨by omega, by omega⟩, ?_⟩ | (refine ⟨x.to.toNat, gP_of ⟨by omega, by omega⟩, ?_⟩) | (refine stE true (by decide) encB_len (i := x.to.toNat) (by omega) (Nat.zero_add _) rfl (.here _) ?_)); conv => whnf)
            exact ⟨_, by omega, k + 1, _, rfl, rfl, rfl, by omega, by rw [List.length_set]; exact hl, hgo⟩
          · have hq : (li && want i k) = false := hq
            rw [if_neg (by rw [hq]; decide)] at hgo
            conv => whnf
            repeat (refine ⟨gP_of ⟨by omega, by omega⟩, ?_⟩; conv => whnf)
            exact ⟨_, by omega, k + 1, _, rfl, rfl, rfl, by omega, hl, hgo⟩
        · rw [drop_nil hc, markK] at hgo
          conv => whnf
          repeat (refine ⟨gP_of ⟨by omega, by omega⟩, ?_⟩; conv => whnf)
          exact ⟨_, by omega, i + 1, _, rfl, rfl, rfl, by omega, hl, hgo⟩
    · rw [drop_nil hi2, reachGo] at hgo
      conv => whnf
      skip
      exact ⟨b, [], rfl, by rw [hgo]⟩
theorem restI {g : List (List Edg)} {i : Nat} (hi : i ≤ g.length) : (restT g)[i]? = some (restV g i) := restT_get g i hi
theorem ForestW (H : Hou) (line : List Int) (hf : HouFit H) (hl : line.length ≤ 1048576) :
    QCall Tryz.prog 50 [.agg (encHou H), .sl 1 none (ints line)] [] (.tup [.sl 7 none ((forestL H line).map encEdg), .int .i64 (growErr H line)]) := by
  have hgw := growW H line hf hl
  refine QCall.of ?_
  refine fcalls (F := Tryz.f50) c50 rfl rfl rfl mixed rfl fun X => ?_
  conv => whnf
  repeat (refine QCall.k0 (hgw) ?_; conv => whnf)
  refine ⟨fun h0 => ?_, fun h0 => ?_⟩ <;> simp at h0
  · conv => whnf
    skip
    rw [forestL, if_neg h0]
    exact VLe.tup (.cons (VLe.nil (by decide)) (.cons (VLe.refl _) .nil))
  obtain ⟨hL, hsum, hg⟩ := growOK h0
  obtain ⟨g, hge⟩ : ∃ g, g = graphM H line := ⟨_, rfl⟩
  have hgv : growV H line = .iptr (encForest g (restT g)) := by rw [growV, if_pos h0, hge]
  have hfl : forestL H line = forestGo g (reachM g wantAll) g 0 := by rw [forestL, if_pos h0, hge]; rfl
  rw [← hge] at hg hsum
  rw [hgv, hfl, h0]
  have hfew := hg.few
  have hre := reachedW g 90 [] wantAll hg allW
  obtain ⟨R, hR⟩ : ∃ R, R = reachM g wantAll := ⟨_, rfl⟩
  have hRl : R.length = g.length + 1 := by rw [hR]; exact reachM_len g _
  rw [← hR] at hre
  rw [← hR]
  conv => whnf
  repeat (refine QCall.k0 (hre) ?_; conv => whnf)
  refine tloop rfl mixed [4, 6, 7, 26, 27, 28] [] (fun m r h => ∃ (i : Nat) (o : List Edg) (v : AV) (hp : Heap), r = [(4, [], v), (6, [], .iptr (encForest g (restT g))), (7, [], .sl 1 none (R.map encB)), (26, [], .sl 1 none (g.map encEdgs)), (27, [], .int .i64 (g.map encEdgs).length), (28, [], .int .i64 i)] ∧ h = hp ∧ m = g.length - i ∧ i ≤ g.length ∧ Out 7 encEdg o v hp ∧ o.length ≤ 2000 * i ∧ forestGo g R g 0 = o ++ forestGo g R (g.drop i) i) ?_ ?_
  · conv => whnf
    exact ⟨_, _, Turn.refl _ _, _, 0, [], _, _, rfl, rfl, rfl, by omega, .inl ⟨rfl, rfl, rfl⟩, by simp, rfl⟩
  · rintro m r h' ⟨i, o, v, hp, rfl, rfl, rfl, hi, ho, hol, hfo⟩
    conv => whnf
    refine ⟨fun hi2 => ?_, fun hi2 => ?_⟩ <;> simp at hi2
    · obtain ⟨es, hes⟩ := get_lt hi2
      have hmany := hg.many i es hes
      rw [drop_cons hes, forestGo] at hfo
      obtain ⟨fi, hfi⟩ := get_lt (l := R) (i := i) (by omega)
      have hgd := getD_of (d := false) hfi
      conv => whnf
      repeat (refine ix (by assumption) ?_; conv => whnf)
      refine tloop rfl mixed [4, 6, 7, 8, 26, 27, 28, 33, 34, 35] [] (fun m r h => ∃ (k : Nat) (o : List Edg) (v : AV) (hp : Heap), r = [(4, [], v), (6, [], .iptr (encForest g (restT g))), (7, [], .sl 1 none (R.map encB)), (8, [], .int .i64 i), (26, [], .sl 1 none (g.map encEdgs)), (27, [], .int .i64 (g.map encEdgs).length), (28, [], .int .i64 i), (33, [], .sl 7 none (es.map encEdg)), (34, [], .int .i64 (es.map encEdg).length), (35, [], .int .i64 k)] ∧ h = hp ∧ m = es.length - k ∧ k ≤ es.length ∧ Out 7 encEdg o v hp ∧ o.length ≤ 2000 * i + k ∧ forestGo g R g 0 = o ++ ((es.drop k).filter (inForest g R i) ++ forestGo g R (g.drop (i + 1)) (i + 1))) ?_ ?_
      · conv => whnf
        exact ⟨_, _, Turn.refl _ _, _, 0, o, _, _, rfl, rfl, rfl, by omega, ho, by omega, hfo⟩
      · clear hfo hol ho
        rintro m r h' ⟨k, o, v, hp, rfl, rfl, rfl, hk, ho, hol, hfo⟩
        conv => whnf
        refine ⟨fun hk2 => ?_, fun hk2 => ?_⟩ <;> simp at hk2
        · obtain ⟨x, hx⟩ := get_lt hk2
          have hxo := hg.edge i es hes x (List.mem_of_getElem? hx)
          have h1 := hxo.lo
          have h2 := hxo.hi
          have hex := restI (g := g) (i := x.to.toNat) (by omega)
          have hcp := copiedW x hxo.fit
          have hin : inForest g R i x = (fi && !decide (restV g x.to.toNat = -1)) := by unfold inForest endB; rw [hgd]; simp
          rw [drop_cons hx, List.filter_cons] at hfo
          conv => whnf
          repeat ((first | refine ix (by assumption) ?_ | (refine ixn x.to.toNat (by omega) hex ?_) | refine ⟨_, _, Rem.here _, ⟨Nat.le_of_ble_eq_true rfl, rfl⟩, ?_⟩ | refine And.intro (by show drawOK (opsAt Tryz.f50 _) _ = true; decide +kernel) ?_
                         | intro (nb : Nat)); conv => whnf)
          refine ⟨fun hq => ?_, fun hq => ?_⟩
          · have hq : inForest g R i x = true := hin.trans hq
            rw [if_pos hq] at hfo
            rcases ho with ⟨he, rfl, rfl⟩ | ⟨q, rfl, rfl⟩
            all_goals
              conv => whnf
              repeat ((first | refine ⟨gP_of ⟨by omega, by omega⟩, ?_⟩ | refine QCall.k0 (hcp) ?_ | (refine ⟨Nat.le_of_ble_eq_true rfl, fun q' => ?_⟩) | (refine ⟨(by simp; unfold AMAX; omega), fun q' => ⟨_, .here _, ?_⟩⟩)); conv => whnf)
              refine ⟨_, _, Turn.refl _ _, _, (by omega), k + 1, o ++ [x], _, _, rfl, rfl, rfl, by omega, .inr ⟨q', ?_, rfl⟩, by simp; omega, by rw [hfo, List.append_assoc]; rfl⟩
              rw [List.map_append]
              first | done | rfl | (rw [he]; done) | (rw [he]; rfl)
          · have hq : inForest g R i x = false := hin.trans hq
            rw [if_neg (by rw [hq]; decide)] at hfo
            conv => whnf
            repeat (refine ⟨gP_of ⟨by omega, by omega⟩, ?_⟩; conv => whnf)
            exact ⟨_, _, Turn.refl _ _, _, (by omega), k + 1, o, _, _, rfl, rfl, rfl, by omega, ho, by omega, hfo⟩
        · rw [drop_nil hk2, List.filter_nil, List.nil_append] at hfo
          conv => whnf
          repeat (refine ⟨gP_of ⟨by omega, by omega⟩, ?_⟩; conv => whnf)
          exact ⟨_, _, Turn.refl _ _, _, (by omega), i + 1, o, _, _, rfl, rfl, rfl, by omega, ho, by omega, hfo⟩
    · rw [drop_nil hi2, forestGo, List.append_nil] at hfo
      rw [hfo]
      conv => whnf
      skip
      exact VLe.tup (.cons (ho.le (by decide)) (.cons (VLe.refl _) .nil))
end Go.Abs.Wall
set_option maxRecDepth 100000
set_option linter.unusedVariables false
set_option linter.unusedSimpArgs false
namespace Go.Abs.Wall
open Go Go.Abs Go.Proofs
theorem CertainW (H : Hou) (line : List Int) (hf : HouFit H) (hl : line.length ≤ 1048576) :
    QCall Tryz.prog 41 [.agg (encHou H), .sl 1 none (ints line)] [] (.tup [.sl 7 none ((certL H line).map encEdg), .int .i64 (certErr H line)]) := by
  have hgw := growW H line hf hl
  refine QCall.of ?_
  refine fcalls (F := Tryz.f41) c41 rfl rfl rfl mixed rfl fun X => ?_
  conv => whnf
  repeat (refine QCall.k0 (hgw) ?_; conv => whnf)
  refine ⟨fun h0 => ?_, fun h0 => ?_⟩ <;> simp at h0
  · have he : certErr H line = growErr H line := by rw [certErr, if_pos h0]
    conv => whnf
    skip
    rw [certL, he, if_neg h0]
    exact VLe.tup (.cons (VLe.nil (by decide)) (.cons (VLe.refl _) .nil))
  obtain ⟨hL, hsum, hg⟩ := growOK h0
  obtain ⟨g, hge⟩ : ∃ g, g = graphM H line := ⟨_, rfl⟩
  have hgl : g.length = line.length := by rw [hge]; exact graphM_len H line
  have hgv : growV H line = .iptr (encForest g (restT g)) := by rw [growV, if_pos h0, hge]
  have hce : certErr H line = if restV g 0 = -1 then 52 else 0 := by rw [certErr, if_neg (by omega), hge]
  rw [← hge] at hg hsum
  rw [hgv, h0]
  have hfew := hg.few
  have hr0 := restI (g := g) (i := 0) (by omega)
  conv => whnf
  repeat (refine ix (by assumption) ?_; conv => whnf)
  refine ⟨fun h1 => ?_, fun h1 => ?_⟩ <;> simp at h1
  · rw [if_pos h1] at hce
    conv => whnf
    skip
    rw [certL, hce, if_neg (by decide)]
    exact VLe.tup (.cons (VLe.nil (by decide)) (.cons (VLe.refl _) .nil))
  rw [if_neg h1] at hce
  have hfl : certL H line = certGo g g 0 := by rw [certL, if_pos hce, hge]; rfl
  rw [hfl, hce]
  conv => whnf
  skip
  refine tloop rfl mixed [1, 4, 6, 33, 34, 35] [] (fun m r h => ∃ (i : Nat) (o : List Edg) (v : AV) (hp : Heap), r = [(1, [], .sl 1 none (ints line)), (4, [], v), (6, [], .iptr (encForest g (restT g))), (33, [], .sl 1 none (g.map encEdgs)), (34, [], .int .i64 (g.map encEdgs).length), (35, [], .int .i64 i)] ∧ h = hp ∧ m = g.length - i ∧ i ≤ g.length ∧ Out 7 encEdg o v hp ∧ o.length ≤ 2000 * i ∧ certGo g g 0 = o ++ certGo g (g.drop i) i) ?_ ?_
  · conv => whnf
    exact ⟨_, _, Turn.refl _ _, _, 0, [], _, _, rfl, rfl, rfl, by omega, .inl ⟨rfl, rfl, rfl⟩, by simp, rfl⟩
  · rintro m r h' ⟨i, o, v, hp, rfl, rfl, rfl, hi, ho, hol, hfo⟩
    conv => whnf
    refine ⟨fun hi2 => ?_, fun hi2 => ?_⟩ <;> simp at hi2
    · obtain ⟨es, hes⟩ := get_lt hi2
      have hmany := hg.many i es hes
      rw [drop_cons hes, certGo] at hfo
      conv => whnf
      repeat ((first | refine ix (by assumption) ?_ | (intro (b7 : Nat)) | refine ⟨_, _, Rem.here _, ⟨Nat.le_of_ble_eq_true rfl, rfl⟩, ?_⟩); conv => whnf)
      refine tloop rfl mixed [1, 4, 6, 7, 33, 34, 35, 40, 41, 42] [] (fun m r h => ∃ (k : Nat) (o : List Edg) (v : AV) (hp : Heap), r = [(1, [], .sl 1 none (ints line)), (4, [], v), (6, [], .iptr (encForest g (restT g))), (7, [], .iptr [.int .i64 i]), (33, [], .sl 1 none (g.map encEdgs)), (34, [], .int .i64 (g.map encEdgs).length), (35, [], .int .i64 i), (40, [], .sl 7 none (es.map encEdg)), (41, [], .int .i64 (es.map encEdg).length), (42, [], .int .i64 k)] ∧ h = hp ∧ m = es.length - k ∧ k ≤ es.length ∧ Out 7 encEdg o v hp ∧ o.length ≤ 2000 * i + k ∧ certGo g g 0 = o ++ (certE g i (es.drop k) k ++ certGo g (g.drop (i + 1)) (i + 1))) ?_ ?_
      · conv => whnf
        exact ⟨_, _, Turn.refl _ _, _, 0, o, _, _, rfl, rfl, rfl, by omega, ho, by omega, hfo⟩
      · clear hfo hol ho
        rintro m r h' ⟨k, o, v, hp, rfl, rfl, rfl, hk, ho, hol, hfo⟩
        conv => whnf
        refine ⟨fun hk2 => ?_, fun hk2 => ?_⟩ <;> simp at hk2
        · obtain ⟨x, hx⟩ := get_lt hk2
          have hxo := hg.edge i es hes x (List.mem_of_getElem? hx)
          have hre := reachedW g 80 [.iptr [.int .i64 i], .iptr [.int .i64 k]] (wantE i k) hg (certWant i k)
          have hrg := reach_get g (wantE i k)
          have hcp := copiedW x hxo.fit
          obtain ⟨b, hb⟩ : ∃ b, b = (reachM g (wantE i k)).getD g.length false := ⟨_, rfl⟩
          rw [← hb] at hrg
          rw [drop_cons hx, certE, ← hb] at hfo
          conv => whnf
          repeat ((first | refine ix (by assumption) ?_ | refine QCall.k0 (hre) ?_ | (refine ixn (enc := encB) g.length (by rw [ints_length, hgl]) hrg ?_) | (intro (b9 : Nat))
                         | (refine ⟨⟨Nat.le_of_ble_eq_true rfl, rfl⟩, ?_⟩) | refine ⟨_, _, Rem.here _, ⟨Nat.le_of_ble_eq_true rfl, rfl⟩, ?_⟩ | refine ⟨_, _, Rem.there (.here _), ?_⟩); conv => whnf)
          refine ⟨fun hq => ?_, fun hq => ?_⟩
          · have hq : (!b) = true := hq
            rw [Bool.not_eq_true'] at hq
            rw [if_neg (by rw [hq]; decide)] at hfo
            rcases ho with ⟨he, rfl, rfl⟩ | ⟨q, rfl, rfl⟩
            all_goals
              conv => whnf
              repeat ((first | refine ⟨gP_of ⟨by omega, by omega⟩, ?_⟩ | refine QCall.k0 (hcp) ?_ | (refine ⟨Nat.le_of_ble_eq_true rfl, fun q' => ?_⟩) | (refine ⟨(by simp; unfold AMAX; omega), fun q' => ⟨_, .here _, ?_⟩⟩)); conv => whnf)
              refine ⟨_, _, Turn.refl _ _, _, (by omega), k + 1, o ++ [x], _, _, rfl, rfl, rfl, by omega, .inr ⟨q', ?_, rfl⟩, by simp; omega, by rw [hfo, List.append_assoc, List.append_assoc]⟩
              rw [List.map_append]
              first | done | rfl | (rw [he]; done) | (rw [he]; rfl)
          · have hq : (!b) = false := hq
            rw [Bool.not_eq_false'] at hq
            rw [if_pos hq, List.nil_append] at hfo
            conv => whnf
            repeat (refine ⟨gP_of ⟨by omega, by omega⟩, ?_⟩; conv => whnf)
            exact ⟨_, _, Turn.refl _ _, _, (by omega), k + 1, o, _, _, rfl, rfl, rfl, by omega, ho, by omega, hfo⟩
        · rw [drop_nil hk2, certE, List.nil_append] at hfo
          conv => whnf
          repeat (refine ⟨gP_of ⟨by omega, by omega⟩, ?_⟩; conv => whnf)
          exact ⟨_, _, Turn.refl _ _, _, (by omega), i + 1, o, _, _, rfl, rfl, rfl, by omega, ho, by omega, hfo⟩
    · rw [drop_nil hi2, certGo, List.append_nil] at hfo
      rw [hfo]
      conv => whnf
      skip
      exact VLe.tup (.cons (ho.le (by decide)) (.cons (VLe.refl _) .nil))
theorem ReachW (H : Hou) (line : List Int) (hf : HouFit H) (hl : line.length ≤ 1048576) :
    QCall Tryz.prog 53 [.agg (encHou H), .sl 1 none (ints line)] [] (.tup [.int .i64 (reachL H line), .int .i64 (growErr H line)]) := by
  have hgw := growW H line hf hl
  refine fcalls (F := Tryz.f53) c53 rfl rfl rfl mixed rfl fun X => ?_
  conv => whnf
  repeat (refine QCall.k0 (hgw) ?_; conv => whnf)
  refine ⟨fun h0 => ?_, fun h0 => ?_⟩ <;> simp at h0
  · conv => whnf
    skip
    exact ⟨by rw [reachL, if_neg h0], rfl⟩
  obtain ⟨hL, hsum, hg⟩ := growOK h0
  obtain ⟨g, hge⟩ : ∃ g, g = graphM H line := ⟨_, rfl⟩
  have hgv : growV H line = .iptr (encForest g (restT g)) := by rw [growV, if_pos h0, hge]
  have hrl : reachL H line = lastT (reachM g wantAll) 0 0 := by rw [reachL, if_pos h0, hge]
  rw [← hge] at hg
  rw [hgv, hrl, h0]
  have hfew := hg.few
  have hre := reachedW g 90 [] wantAll hg allW
  obtain ⟨R, hR⟩ : ∃ R, R = reachM g wantAll := ⟨_, rfl⟩
  have hRl : R.length = g.length + 1 := by rw [hR]; exact reachM_len g _
  rw [← hR] at hre ⊢
  conv => whnf
  repeat (refine QCall.k0 (hre) ?_; conv => whnf)
  refine sloop rfl mixed [8, 21, 22, 23] [] (fun m r h => ∃ (i : Nat) (far : Nat), r = [(8, [], .int .i64 far), (21, [], .sl 1 none (R.map encB)), (22, [], .int .i64 (R.map encB).length), (23, [], .int .i64 i)] ∧ h = [] ∧ m = R.length - i ∧ i ≤ R.length ∧ lastT R 0 0 = lastT (R.drop i) i far) ?_ ?_
  · conv => whnf
    exact ⟨_, 0, 0, rfl, rfl, rfl, by omega, rfl⟩
  · rintro m r h ⟨i, far, rfl, rfl, rfl, hi, hfo⟩
    conv => whnf
    refine ⟨fun hi2 => ?_, fun hi2 => ?_⟩ <;> simp at hi2
    · obtain ⟨b, hb⟩ := get_lt hi2
      rw [drop_cons hb, lastT] at hfo
      conv => whnf
      repeat (refine ix (by assumption) ?_; conv => whnf)
      refine ⟨fun hq => ?_, fun hq => ?_⟩
      · rw [if_pos hq] at hfo
        conv => whnf
        repeat (refine ⟨gP_of ⟨by omega, by omega⟩, ?_⟩; conv => whnf)
        exact ⟨_, by omega, i + 1, i, rfl, rfl, rfl, by omega, hfo⟩
      · rw [if_neg (by rw [hq]; decide)] at hfo
        conv => whnf
        repeat (refine ⟨gP_of ⟨by omega, by omega⟩, ?_⟩; conv => whnf)
        exact ⟨_, by omega, i + 1, far, rfl, rfl, rfl, by omega, hfo⟩
    · rw [drop_nil hi2, lastT] at hfo
      conv => whnf
      skip
      exact ⟨by rw [hfo], rfl⟩
theorem forestL_fit {H : Hou} {line : List Int} : (forestL H line).length ≤ 2000 ∧ ∀ x ∈ forestL H line, WrdFit x.word := by
  unfold forestL
  split
  · rename_i h0
    obtain ⟨hL, hsum, hg⟩ := growOK h0
    refine ⟨by have := forestGo_len (graphM H line) (reachM (graphM H line) wantAll) (graphM H line) 0; unfold forestG; omega, fun x hx => ?_⟩
    have hgo : ∀ (t : List (List Edg)) (i : Nat), x ∈ forestGo (graphM H line) (reachM (graphM H line) wantAll) t i → ∃ es ∈ t, x ∈ es := by
      intro t
      induction t with
      | nil => intro i h; cases h
      | cons es t ih =>
        intro i h
        unfold forestGo at h
        rcases List.mem_append.1 h with h | h
        · exact ⟨es, by simp, (List.mem_filter.1 h).1⟩
        · obtain ⟨e, h1, h2⟩ := ih (i + 1) h
          exact ⟨e, by simp [h1], h2⟩
    obtain ⟨es, h1, h2⟩ := hgo _ 0 hx
    obtain ⟨i, hi⟩ := List.mem_iff_getElem?.1 h1
    exact (hg.edge i es hi x h2).fit
  · simp
theorem certL_fit {H : Hou} {line : List Int} : (certL H line).length ≤ 2000 ∧ ∀ x ∈ certL H line, WrdFit x.word := by
  unfold certL
  split
  · rename_i hc
    have h0 : growErr H line = 0 := by
      unfold certErr at hc
      split at hc
      · rename_i h1; exact absurd hc h1
      · rename_i h1; simpa using h1
    obtain ⟨hL, hsum, hg⟩ := growOK h0
    refine ⟨by have := certGo_len (graphM H line) (graphM H line) 0; unfold certG; omega, fun x hx => ?_⟩
    have hce : ∀ (es : List Edg) (i k : Nat), x ∈ certE (graphM H line) i es k → x ∈ es := by
      intro es
      induction es with
      | nil => intro i k h; cases h
      | cons a t ih =>
        intro i k h
        unfold certE at h
        rcases List.mem_append.1 h with h | h
        · split at h
          · cases h
          · simp at h; simp [h]
        · simp [ih i (k + 1) h]
    have hgo : ∀ (t : List (List Edg)) (i : Nat), x ∈ certGo (graphM H line) t i → ∃ es ∈ t, x ∈ es := by
      intro t
      induction t with
      | nil => intro i h; cases h
      | cons es t ih =>
        intro i h
        unfold certGo at h
        rcases List.mem_append.1 h with h | h
        · exact ⟨es, by simp, hce es i 0 h⟩
        · obtain ⟨e, h1, h2⟩ := ih (i + 1) h
          exact ⟨e, by simp [h1], h2⟩
    obtain ⟨es, h1, h2⟩ := hgo _ 0 hx
    obtain ⟨i, hi⟩ := List.mem_iff_getElem?.1 h1
    exact (hg.edge i es hi x h2).fit
  · simp
end Go.Abs.Wall

