/- What is proved: small laws for the walks of this seat, and contracts of its functions. No condition but those each theorem names. -/
import Derived.Test.YtbgnfchlelhbeaaM6
import Derived.Test.YtbgnfchlelhbeaaM13
set_option maxRecDepth 100000
set_option linter.unusedVariables false
set_option linter.unusedSimpArgs false
namespace Go.Abs.Wall
open Go Go.Abs Go.Proofs
/-! ### first, its answer a row of the caller's own -/
def rowS (O : List Rst) : List AV := (O.map encRst).flatten
theorem rowS_len (O : List Rst) : (rowS O).length = O.length * 4 := by
  unfold rowS
  induction O with
  | nil => rfl
  | cons x O ih => simp only [List.map_cons, List.flatten_cons, List.length_append, List.length_cons] at ih ⊢; rw [ih]; simp [encRst]; omega
theorem rowS_app (A B : List Rst) : rowS (A ++ B) = rowS A ++ rowS B := by simp [rowS]
def OVo (out : List Rst) (v : AV) (T : Heap) : Prop := (out = [] ∧ v = .nilO ∧ T = []) ∨ (∃ q, v = .osl q 0 out.length 4 ∧ T = [(q, .vec (rowS out))])
theorem Upd.appO {b b' : Nat} {o o' : Ob} {h h' : Heap} (A : Heap) (hu : Upd b o b' o' h h') : Upd b o b' o' (A ++ h) (A ++ h') := by
  induction A with
  | nil => exact hu
  | cons x A ih => exact .there ih
theorem nilO_le : VLe .nilS .nilO := by
  intro c u hu
  simpa [Rep] using hu
theorem yieldCo {n : Int} {cells : List Cel} {par line : List Int} {pv rv ov : AV} {T : Heap} {b km ob : Nat} {ps : List Pos} {out : List Rst} {most : Int} {K : AV → Heap → Prop} (hc : CelsOK cells) (hp : par.length ≤ 60) (hl : line.length ≤ 60) (ho : out.length ≤ 1048576) (hov : OVo out ov T)
    (hk : ∀ q, K (.bool (decide ((out.length : Int) + 1 < most))) (sh n cells par pv ps rv b km ++ [(ob, .vec [.osl q 0 (out.length + 1) 4])] ++ [(q, .vec (rowS (out ++ [restored cells par line])))])) :
    ACalls Try.prog 86 [.sl 1 none (ints line), .optr ob 0, .iptr [.optr b 0], .iptr [.int .i64 most]] (sh n cells par pv ps rv b km ++ [(ob, .vec [ov])] ++ T) K := by
  suffices h : ACalls Try.prog 86 [.sl 1 none (ints line), .optr ob 0, .iptr [.optr b 0], .iptr [.int .i64 most]] (sh n cells par pv ps rv b km ++ [(ob, .vec [ov])] ++ T)
      (fun v h' => v = .bool (decide ((out.length : Int) + 1 < most)) ∧ ∃ q, (sh n cells par pv ps rv b km ++ [(ob, Ob.vec [.osl q 0 (out.length + 1) 4])] ++ [(q, Ob.vec (rowS (out ++ [restored cells par line])))]).Perm h') by
    refine ACalls.post h ?_
    rintro v h' ⟨rfl, q, hperm⟩
    exact ⟨_, _, hk q, VLe.refl _, fun k o hm => hperm.mem_iff.1 hm, fun hnd => (List.Perm.map (fun x : Nat × Ob => x.1) hperm).nodup_iff.2 hnd⟩
  rcases hov with ⟨rfl, rfl, rfl⟩ | ⟨q, rfl, rfl⟩
  · refine fcalls (F := Try.f86) c86 rfl rfl rfl mixed rfl fun X => ?_
    conv => whnf
    repeat ((first | refine gcall (restoredW cells par line hc hp hl) ?_ | (refine ⟨_, _, .tail _ (.tail _ (.head _)), rfl, ?_⟩) | (refine ⟨⟨(by show 0 < 1; omega), (by show 1 ≤ 4294967296; omega)⟩, fun q' => ?_⟩)
                   | (refine ⟨_, _, .there (.there (.there (.here _))), ⟨Nat.le_of_ble_eq_true rfl, Nat.le_of_ble_eq_true rfl⟩, ?_⟩) | (refine ⟨_, _, .tail _ (.tail _ (.tail _ (.head _))), rfl, ?_⟩)
                   | refine ⟨_, _, .head _, rfl, ?_⟩ | refine And.intro (by show drawOK (opsAt Try.f86 _) _ = true; decide +kernel) ?_); conv => whnf)
    exact ⟨by simp, q', List.perm_append_comm (l₁ := sh n cells par pv ps rv b km ++ [(ob, Ob.vec [.osl q' 0 ([].length + 1) 4])]) (l₂ := [(q', Ob.vec (rowS ([] ++ [restored cells par line])))])⟩
  · refine fcalls (F := Try.f86) c86 rfl rfl rfl mixed rfl fun X => ?_
    conv => whnf
    repeat ((first | refine gcall (restoredW cells par line hc hp hl) ?_ | (refine ⟨_, _, .tail _ (.tail _ (.head _)), rfl, ?_⟩) | (refine ⟨rowS out, .tail _ (.tail _ (.tail _ (.head _))), ⟨rowS_len out, (by show _ + 1 ≤ 4294967296; omega)⟩, fun q' => ⟨_, .there (.there (.there (.here _))), ?_⟩⟩)
                   | (refine ⟨_, _, .there (.there (.here _)), ⟨Nat.le_of_ble_eq_true rfl, Nat.le_of_ble_eq_true rfl⟩, ?_⟩) | refine ⟨_, _, .head _, rfl, ?_⟩ | refine And.intro (by show drawOK (opsAt Try.f86 _) _ = true; decide +kernel) ?_); conv => whnf)
    exact ⟨by simp, q', by rw [rowS_app]; exact List.Perm.refl _⟩
theorem yieldRo {n : Int} {cells : List Cel} {par line : List Int} {pv rv ov : AV} {T : Heap} {b km ob : Nat} {ps : List Pos} {out : List Rst} {most : Int} {K : AV → Heap → Prop} (hc : CelsOK cells) (hp : par.length ≤ 60) (hl : line.length ≤ 60) (ho : out.length ≤ 1048576) (hov : OVo out ov T)
    (hk : ∀ q, K (.bool (decide ((out.length : Int) + 1 < most))) (sh n cells par pv ps rv b km ++ ([(ob, .vec [.osl q 0 (out.length + 1) 4])] ++ [(q, .vec (rowS (out ++ [restored cells par line])))]))) :
    ACalls Try.prog 86 [.sl 1 none (ints line), .optr ob 0, .iptr [.optr b 0], .iptr [.int .i64 most]] (sh n cells par pv ps rv b km ++ ([(ob, .vec [ov])] ++ T)) K := by
  rw [← List.append_assoc]
  exact yieldCo hc hp hl ho hov (fun q => by rw [List.append_assoc]; exact hk q)
theorem walkO {n : Int} {cells : List Cel} {par : List Int} {pq rq : Nat} {b km ob : Nat} {ps : List Pos} {rest : List (List (List Int))} {F : Nat} {most changes : Int} (hn0 : 0 ≤ n) (hn : n ≤ 1048576) (hc : CelsOK cells) (hp : par.length ≤ 60) (hps : ps.length ≤ 1048576) :
    ∀ (f : Nat) (set row line : List Int) (left : Int) (out out' : List Rst) (r0 : Bool) (ov : AV) (T : Heap) (K : AV → Heap → Prop), walkM n F cells ps par rest most changes f set row line left out = some (out', r0) → OVo out ov T →
    (∀ ov' T', OVo out' ov' T' → K (.bool r0) (sh n cells par (.sl 2 (some pq) (ps.map encPos)) ps (.sl 1 (some rq) (rest.map encTab)) b km ++ ([(ob, Ob.vec [ov'])] ++ T'))) →
    ACalls Try.prog 85 [.optr b 0, .sl 1 none (ints set), .sl 1 none (ints row), .sl 1 none (ints line), .int .i64 changes, .int .i64 left, .fn 86 [.optr ob 0, .iptr [.optr b 0], .iptr [.int .i64 most]]] (sh n cells par (.sl 2 (some pq) (ps.map encPos)) ps (.sl 1 (some rq) (rest.map encTab)) b km ++ ([(ob, Ob.vec [ov])] ++ T)) K
  | 0, set, row, line, left, out, out', r0, ov, T, K, h, _, _ => by cases h
  | f + 1, set, row, line, left, out, out', r0, ov, T, K, h, hov, hK => by
    have ih := @walkO n cells par pq rq b km ob ps rest F most changes hn0 hn hc hp hps f
    rw [walkM] at h
    split at h
    · cases h
    rename_i hck
    simp only [not_or, Bool.not_eq_false, Nat.not_lt, Int.not_lt] at hck
    obtain ⟨hok, hll, hrl, hrne, hol, hl0, hl1⟩ := hck
    unfold setOK at hok
    simp only [Bool.and_eq_true, decide_eq_true_eq, List.all_eq_true] at hok
    obtain ⟨⟨hne, hsl⟩, hsb⟩ := hok
    split at h
    · cases h
    rename_i bd hbd
    suffices hh : ACalls Try.prog 85 [.optr b 0, .sl 1 none (ints set), .sl 1 none (ints row), .sl 1 none (ints line), .int .i64 changes, .int .i64 left, .fn 86 [.optr ob 0, .iptr [.optr b 0], .iptr [.int .i64 most]]] (sh n cells par (.sl 2 (some pq) (ps.map encPos)) ps (.sl 1 (some rq) (rest.map encTab)) b km ++ ([(ob, Ob.vec [ov])] ++ T))
        (fun v h' => v = .bool r0 ∧ ∃ ov' T', OVo out' ov' T' ∧ h' = sh n cells par (.sl 2 (some pq) (ps.map encPos)) ps (.sl 1 (some rq) (rest.map encTab)) b km ++ ([(ob, Ob.vec [ov'])] ++ T')) by
      exact ACalls.mono (by rintro v h' ⟨rfl, ov', T', ho, rfl⟩; exact hK ov' T' ho) hh
    have hil := ints_length row
    have hrpos : 0 < row.length := List.length_pos_iff.2 hrne
    have hlast : row[row.length - 1]? = some (row.getD (row.length - 1) 0) := by
      rw [getD_lt (show row.length - 1 < row.length by omega), List.getElem?_eq_getElem (by omega)]
    refine fcalls (F := Try.f85) c85 rfl rfl rfl mixed rfl fun X => ?_
    conv => whnf
    repeat ((refine QCall.fr (T := [(ob, Ob.vec [ov])] ++ T) (bound (by omega) hrl hbd) ?_); conv => whnf)
    split at h
    · rename_i hlt
      cases h
      refine cT (by simpa using hlt) ?_
      conv => whnf
      exact ⟨rfl, ov, T, hov, rfl⟩
    · rename_i hlt
      refine cF (by simpa using hlt) ?_
      conv => whnf
      split at h
      · rename_i hl
        subst hl
        refine cT rfl ?_
        conv => whnf
        repeat ((first | refine ⟨gP_of ⟨by omega, by omega⟩, ?_⟩ | (refine QCall.fr (T := [(ob, Ob.vec [ov])] ++ T) (lastC n cells par .nilS _ b km pq ps (idxOf ps) hps) ?_)
                       | refine QCall.k0 (containsI set _ (by unfold LMAX; omega)) ?_ | (refine ixn (row.length - 1) (by omega) hlast ?_)); conv => whnf)
        refine ⟨fun hb => ?_, fun hb => ?_⟩
        · conv => whnf
          refine yieldRo hc hp hll hol hov fun q => ?_
          conv => whnf
          have h1 : set.contains (ps.length - 1 : Int) = true ∧ row.getD (row.length - 1) 0 = changes := by simpa [-List.getD_eq_getElem?_getD] using hb
          rw [if_pos ⟨List.contains_iff_mem.1 h1.1, h1.2⟩] at h
          cases h
          exact ⟨by rw [hb]; rfl, _, _, .inr ⟨q, by rw [List.length_append]; rfl, rfl⟩, rfl⟩
        · conv => whnf
          rw [if_neg (fun h1 => hb (by simp [-List.getD_eq_getElem?_getD, h1.1, h1.2]))] at h
          cases h
          exact ⟨by simp only [Bool.or_false]; congr 1; cases hh : (!set.contains (ps.length - 1 : Int) || !decide (row.getD (row.length - 1) 0 = changes)) with | true => rfl | false => exact absurd hh hb, ov, T, hov, rfl⟩
      · rename_i hl
        refine cF (by simpa using hl) ?_
        conv => whnf
        repeat (refine ⟨_, _, .head _, rfl, ?_⟩; conv => whnf)
        refine sloop rfl mixed [0, 1, 2, 3, 4, 5, 6, 49, 50] [] (fun m r h => ∃ (i : Nat) (o : List Rst) (ov : AV) (T : Heap), r = [(0, [], .optr b 0), (1, [], .sl 1 none (ints set)), (2, [], .sl 1 none (ints row)), (3, [], .sl 1 none (ints line)), (4, [], .int .i64 changes), (5, [], .int .i64 left), (6, [], .fn 86 [.optr ob 0, .iptr [.optr b 0], .iptr [.int .i64 most]]), (49, [], .int .i64 n), (50, [], .int .i64 i)] ∧ h = sh n cells par (.sl 2 (some pq) (ps.map encPos)) ps (.sl 1 (some rq) (rest.map encTab)) b km ++ ([(ob, Ob.vec [ov])] ++ T) ∧ m = n.toNat - i ∧ i ≤ n ∧ OVo o ov T ∧ wkGo (fun set2 row2 line2 out2 => walkM n F cells ps par rest most changes f set2 row2 line2 (left - 1) out2) F cells ps par set row line ((upto n).drop i) o = some (out', r0)) ?_ ?_
        · conv => whnf
          exact ⟨_, 0, out, ov, T, rfl, rfl, rfl, by omega, hov, h⟩
        · rintro m rr hh ⟨i, o, ov, T, rfl, rfl, rfl, hi, hov, he⟩
          conv => whnf
          refine ⟨fun hf => ?_, fun hf => ?_⟩ <;> simp at hf
          · have hx := upto_get (n := n) hf
            rw [drop_cons hx, wkGo] at he
            split at he
            · cases he
            rename_i nx hnx
            conv => whnf
            refine afterF (T := [(ob, Ob.vec [ov])] ++ T) hc hps (by omega) hnx ?_
            by_cases hz : nx = []
            · rw [if_pos hz] at he
              rw [show setV nx = .nilS from by unfold setV; rw [if_pos hz]]
              conv => whnf
              refine cT rfl ?_
              conv => whnf
              repeat (refine ⟨gP_of ⟨by omega, by omega⟩, ?_⟩; conv => whnf)
              exact ⟨_, by omega, i + 1, o, ov, T, rfl, rfl, rfl, by omega, hov, he⟩
            · rw [if_neg hz] at he
              rw [show setV nx = .sl 1 none (ints nx) from by unfold setV; rw [if_neg hz]]
              split at he
              · cases he
              rename_i row2 hrow2
              conv => whnf
              refine ⟨by simpa [gP, ints] using hz, ?_⟩
              conv => whnf
              refine cF rfl ?_
              conv => whnf
              repeat ((refine QCall.fr (T := [(ob, Ob.vec [ov])] ++ T) (extend (by omega) hrow2) ?_); conv => whnf)
              refine ACalls.mono ?_ (ACalls.frame (cloneT line (by omega)) _)
              rintro v' h' ⟨h1, hcl, rfl⟩
              split at he
              · cases he
              · rename_i o2 hrec
                rcases hcl with ⟨rfl, rfl, rfl⟩ | ⟨q, rfl, rfl⟩
                · conv => whnf
                  repeat ((first | refine ⟨gP_of ⟨by omega, by omega⟩, ?_⟩ | (refine ⟨(by show 1 ≤ 4294967296; omega), fun q' => ?_⟩)); conv => whnf)
                  refine ACalls.tok (ih nx row2 ([] ++ [(i : Int)]) (left - 1) o o2 _ ov T _ hrec hov ?_) (.cons (VLe.refl _) (.cons (VLe.refl _) (.cons (VLe.refl _) (.cons VLe.sl (VsLe.refl _)))))
                  refine fun ov' T' hov' => ?_
                  conv => whnf
                  first
                    | (refine cT rfl ?_
                       conv => whnf
                       cases he
                       exact ⟨rfl, ov', T', hov', rfl⟩)
                    | (refine cF rfl ?_
                       conv => whnf
                       repeat ((first | refine ⟨gP_of ⟨by omega, by omega⟩, ?_⟩ | intro (nb : Nat)); conv => whnf)
                       exact ⟨_, by omega, i + 1, o2, ov', T', rfl, rfl, rfl, by omega, hov', he⟩)
                · conv => whnf
                  repeat ((first | refine ⟨gP_of ⟨by omega, by omega⟩, ?_⟩ | (refine ⟨(by rw [List.length_append, ints_length]; show _ + 1 ≤ 4294967296; omega), fun q' => ⟨_, .here _, ?_⟩⟩)); conv => whnf)
                  rw [show ints line ++ [[AV.int .i64 (i : Int)]] = ints (line ++ [(i : Int)]) from by simp [ints]]
                  refine ACalls.tok (ih nx row2 (line ++ [(i : Int)]) (left - 1) o o2 _ ov T _ hrec hov ?_) (.cons (VLe.refl _) (.cons (VLe.refl _) (.cons (VLe.refl _) (.cons VLe.sl (VsLe.refl _)))))
                  refine fun ov' T' hov' => ?_
                  conv => whnf
                  first
                    | (refine cT rfl ?_
                       conv => whnf
                       cases he
                       exact ⟨rfl, ov', T', hov', rfl⟩)
                    | (refine cF rfl ?_
                       conv => whnf
                       repeat ((first | refine ⟨gP_of ⟨by omega, by omega⟩, ?_⟩ | intro (nb : Nat)); conv => whnf)
                       exact ⟨_, by omega, i + 1, o2, ov', T', rfl, rfl, rfl, by omega, hov', he⟩)
              · rename_i o2 hrec
                rcases hcl with ⟨rfl, rfl, rfl⟩ | ⟨q, rfl, rfl⟩
                · conv => whnf
                  repeat ((first | refine ⟨gP_of ⟨by omega, by omega⟩, ?_⟩ | (refine ⟨(by show 1 ≤ 4294967296; omega), fun q' => ?_⟩)); conv => whnf)
                  refine ACalls.tok (ih nx row2 ([] ++ [(i : Int)]) (left - 1) o o2 _ ov T _ hrec hov ?_) (.cons (VLe.refl _) (.cons (VLe.refl _) (.cons (VLe.refl _) (.cons VLe.sl (VsLe.refl _)))))
                  refine fun ov' T' hov' => ?_
                  conv => whnf
                  first
                    | (refine cT rfl ?_
                       conv => whnf
                       cases he
                       exact ⟨rfl, ov', T', hov', rfl⟩)
                    | (refine cF rfl ?_
                       conv => whnf
                       repeat ((first | refine ⟨gP_of ⟨by omega, by omega⟩, ?_⟩ | intro (nb : Nat)); conv => whnf)
                       exact ⟨_, by omega, i + 1, o2, ov', T', rfl, rfl, rfl, by omega, hov', he⟩)
                · conv => whnf
                  repeat ((first | refine ⟨gP_of ⟨by omega, by omega⟩, ?_⟩ | (refine ⟨(by rw [List.length_append, ints_length]; show _ + 1 ≤ 4294967296; omega), fun q' => ⟨_, .here _, ?_⟩⟩)); conv => whnf)
                  rw [show ints line ++ [[AV.int .i64 (i : Int)]] = ints (line ++ [(i : Int)]) from by simp [ints]]
                  refine ACalls.tok (ih nx row2 (line ++ [(i : Int)]) (left - 1) o o2 _ ov T _ hrec hov ?_) (.cons (VLe.refl _) (.cons (VLe.refl _) (.cons (VLe.refl _) (.cons VLe.sl (VsLe.refl _)))))
                  refine fun ov' T' hov' => ?_
                  conv => whnf
                  first
                    | (refine cT rfl ?_
                       conv => whnf
                       cases he
                       exact ⟨rfl, ov', T', hov', rfl⟩)
                    | (refine cF rfl ?_
                       conv => whnf
                       repeat ((first | refine ⟨gP_of ⟨by omega, by omega⟩, ?_⟩ | intro (nb : Nat)); conv => whnf)
                       exact ⟨_, by omega, i + 1, o2, ov', T', rfl, rfl, rfl, by omega, hov', he⟩)
          · rw [drop_nil (by rw [upto_len]; omega), wkGo] at he
            cases he
            conv => whnf
            exact ⟨rfl, ov, T, hov, rfl⟩
theorem firstO {n : Int} {cells : List Cel} {par : List Int} {pq : Nat} {b km : Nat} {ps : List Pos} {F f1 f2 f3 : Nat} {most : Int} {out : List Rst} (hn0 : 0 ≤ n) (hn : n ≤ 1048576) (hc : CelsOK cells) (hp : par.length ≤ 60) (hps : PosOK cells ps) (hF : F ≤ 65535) (hf3 : f3 ≤ 1048576) (hm : most ≤ 1048576)
    (h : firstM n F cells ps par most f1 f2 f3 = some out) :
    ACalls Try.prog 51 [.optr b 0, .int .i64 most] (sh n cells par (.sl 2 (some pq) (ps.map encPos)) ps .nilS b km) (fun v h' => ∃ SHx T, OVo out v T ∧ h' = SHx ++ T) := by
  unfold firstM at h
  split at h
  · cases h
  rename_i R hR
  split at h
  · cases h
  rename_i all kn2 hall
  obtain ⟨ht0, ht1⟩ := totM_bd hc
  have hil := ints_length par
  have hN := hps.len
  have hRl := bfs_len hR
  simp only [List.length_nil] at hRl
  refine fcalls (F := Try.f51) c51 rfl rfl rfl mixed rfl fun X => ?_
  conv => whnf
  intro ob
  conv => whnf
  refine ACalls.swap (A := [(ob, Ob.vec [.nilS])]) (B := sh n cells par (.sl 2 (some pq) (ps.map encPos)) ps .nilS b km) ?_
  refine ACalls.fr (prepare hc hps hp) ?_
  rintro v h1 ⟨rfl, rq, rfl⟩
  conv => whnf
  intro q0
  conv => whnf
  obtain ⟨SH, hSH⟩ : ∃ SH, SH = sh n cells par (.sl 2 (some pq) (ps.map encPos)) ps (.sl 1 (some rq) ((restL cells ps par (totM cells + 1).toNat).map encTab)) b km := ⟨_, rfl⟩
  show ACalls Try.prog 53 [.optr b 0, .sl 1 (some q0) (ints [0])] (([(q0, Ob.tok)] ++ sh n cells par (.sl 2 (some pq) (ps.map encPos)) ps (.sl 1 (some rq) ((restL cells ps par (totM cells + 1).toNat).map encTab)) b km) ++ ([(rq, Ob.tok)] ++ [(ob, Ob.vec [.nilS])])) _
  refine ACalls.fr (closed (K := fun v h => v = .sl 1 none (ints (isort R)) ∧ h = sh n cells par (.sl 2 (some pq) (ps.map encPos)) ps (.sl 1 (some rq) ((restL cells ps par (totM cells + 1).toNat).map encTab)) b km) hc hN.2 (by simp only [List.length_singleton]; omega) hR (fun e => by subst e; simp at hRl) (by omega) ⟨rfl, rfl⟩) ?_
  rintro v h1 ⟨rfl, rfl⟩
  rw [← hSH]
  conv => whnf
  intro kn
  conv => whnf
  have hmem : (b, Ob.vec (sv n cells par (.sl 2 (some pq) (ps.map encPos)) km (.sl 1 (some rq) ((restL cells ps par (totM cells + 1).toNat).map encTab)))) ∈ SH := by rw [hSH]; exact .head _
  have htot : QCall Try.prog 84 [.optr b 0] SH (.int .i64 (totM cells)) := by rw [hSH]; exact total n cells par _ _ b km ps hc
  refine ACalls.swap (A := [(kn, Ob.map [])]) (B := SH ++ ([(rq, Ob.tok)] ++ [(ob, Ob.vec [.nilS])])) ?_
  refine ACalls.mv ?_
  refine ACalls.fr (A := SH ++ [(kn, Ob.map [])]) (T := [(ob, Ob.vec [.nilS])]) (R := fun v h => v = .int .i64 all ∧ h = SH ++ [(kn, Ob.map (encKn kn2))]) (by rw [hSH]; exact count hn0 hn hc hN.2 f1 (isort R) [] kn2 all _ hall ⟨rfl, rfl⟩) ?_
  rintro v h1 ⟨rfl, rfl⟩
  conv => whnf
  repeat ((first | refine ⟨gP_of ⟨by omega, by omega⟩, ?_⟩ | (refine ⟨_, _, List.mem_append_left _ (List.mem_append_left _ hmem), rfl, ?_⟩)); conv => whnf)
  rw [hil]
  refine tloop rfl mixed [2, 3, 4, 5, 6, 7, 25, 26] [(7, 1)] (fun m r h => ∃ (j : Nat) (q : Nat), r = [(2, [], .iptr [.optr b 0]), (3, [], .iptr [.int .i64 most]), (4, [], .optr ob 0), (5, [], .sl 1 none (ints (isort R))), (6, [], .int .i64 all), (7, [], .sl 1 (some q) (ints (upto j))), (25, [], .int .i64 (par.length + 1)), (26, [], .int .i64 j)] ∧ h = [(q, .tok)] ++ (SH ++ [(ob, .vec [.nilS])]) ∧ m = par.length + 1 - j ∧ j ≤ par.length + 1) ?_ ?_
  · conv => whnf
    refine ⟨by decide, fun q => ?_⟩
    conv => whnf
    exact ⟨_, _, Turn.reh (D := [(q, Ob.tok)]) (RLe.refl _), _, 0, q, rfl, rfl, rfl, by omega⟩
  · rintro m rr hh ⟨j, q, rfl, rfl, rfl, hj⟩
    conv => whnf
    refine ⟨fun hf => ?_, fun hf => ?_⟩ <;> simp at hf
    · conv => whnf
      repeat ((first | refine ⟨gP_of ⟨by omega, by omega⟩, ?_⟩ | (refine ⟨(by rw [List.length_append, ints_length, upto_len]; show _ + 1 ≤ 4294967296; omega), fun q' => ⟨_, .here _, ?_⟩⟩)); conv => whnf)
      exact ⟨_, _, Turn.refl _ _, _, by omega, j + 1, q', by rw [upto_succ]; simp [ints], rfl, rfl, by omega⟩
    · have hjm : j = par.length + 1 := by omega
      subst hjm
      conv => whnf
      skip
      refine tloop rfl mixed [2, 3, 4, 5, 6, 7, 9] [] (fun m r h => ∃ (f : Nat) (c : Int) (o : List Rst) (ov : AV) (T : Heap), r = [(2, [], .iptr [.optr b 0]), (3, [], .iptr [.int .i64 most]), (4, [], .optr ob 0), (5, [], .sl 1 none (ints (isort R))), (6, [], .int .i64 all), (7, [], .sl 1 none (ints (upto (par.length + 1)))), (9, [], .int .i64 c)] ∧ h = SH ++ ([(ob, .vec [ov])] ++ T) ∧ m = f ∧ OVo o ov T ∧ 0 ≤ c ∧ c + f ≤ 1048576 ∧ fsGo (fun c r out => walkM n F cells ps par (restL cells ps par (totM cells + 1).toNat) most c f2 (isort R) (upto (par.length + 1)) [] r out) most all (totM cells) f c o = some out) ?_ ?_
      · conv => whnf
        refine ⟨_, _, (Turn.pre (D := [(q, Ob.tok)]) (.cons (VLe.refl _) (.cons (VLe.refl _) (.cons (VLe.refl _) (.cons (VLe.refl _) (.cons (VLe.refl _) (.cons VLe.sl (RLe.refl _)))))))).trans (Turn.cells (ys := [.nilO]) (Upd.appO SH (.here _)) (.cons nilO_le (VsLe.refl _))), _, f3, 0, [], .nilO, [], rfl, rfl, rfl, .inl ⟨rfl, rfl, rfl⟩, by omega, by omega, h⟩
      · rintro f rr hh ⟨_, c, o0, ov, T, rfl, rfl, rfl, hov, hc0, hcf, he⟩
        cases f with
        | zero => cases he
        | succ f =>
        rw [fsGo] at he
        rcases id hov with ⟨ho, rfl, rfl⟩ | ⟨q2, rfl, rfl⟩
        · conv => whnf
          repeat ((refine ⟨_, _, List.mem_append_right _ (.head _), rfl, ?_⟩); conv => whnf)
          refine ⟨fun hb => ?_, fun hb => ?_⟩
          · have hb : (o0.length : Int) < min most all := by first | simpa using hb | (rw [ho]; simpa using hb)
            rw [if_pos hb] at he
            split at he
            · cases he
            rename_i oc hch
            conv => whnf
            repeat ((first | refine ⟨gP_of ⟨by omega, by omega⟩, ?_⟩ | (refine QCall.fr (h := SH) htot ?_)); conv => whnf)
            refine tloop rfl mixed [2, 3, 4, 5, 6, 7, 9, 44, 45] [] (fun m r h => ∃ (i : Nat) (o : List Rst) (ov : AV) (T : Heap), r = [(2, [], .iptr [.optr b 0]), (3, [], .iptr [.int .i64 most]), (4, [], .optr ob 0), (5, [], .sl 1 none (ints (isort R))), (6, [], .int .i64 all), (7, [], .sl 1 none (ints (upto (par.length + 1)))), (9, [], .int .i64 c), (44, [], .int .i64 (totM cells + 1)), (45, [], .int .i64 i)] ∧ h = SH ++ ([(ob, .vec [ov])] ++ T) ∧ m = (totM cells + 1).toNat - i ∧ i ≤ totM cells + 1 ∧ OVo o ov T ∧ chGo ((fun c r out => walkM n F cells ps par (restL cells ps par (totM cells + 1).toNat) most c f2 (isort R) (upto (par.length + 1)) [] r out) c) most ((upto (totM cells + 1)).drop i) o = some oc) ?_ ?_
            · conv => whnf
              exact ⟨_, _, Turn.refl _ _, _, 0, o0, _, _, rfl, rfl, rfl, by omega, hov, hch⟩
            · rintro mm rr hh ⟨i, o, ov, T, rfl, rfl, rfl, hi, hov, hx⟩
              conv => whnf
              refine ⟨fun hf => ?_, fun hf => ?_⟩ <;> simp at hf
              · rw [drop_cons (upto_get hf), chGo] at hx
                split at hx
                · cases hx
                rename_i o2 r2 hwk
                conv => whnf
                refine ACalls.args (args' := [.optr b 0, .sl 1 none (ints (isort R)), .sl 1 none (ints (upto (par.length + 1))), .sl 1 none (ints []), .int .i64 c, .int .i64 i, .fn 86 [.optr ob 0, .iptr [.optr b 0], .iptr [.int .i64 most]]]) ?_ (.cons (VLe.refl _) (.cons (VLe.refl _) (.cons (VLe.refl _) (.cons (VLe.nil (by decide)) (VsLe.refl _)))))
                have hw : ∀ K : AV → Heap → Prop, (∀ ov' T', OVo o2 ov' T' → K (.bool r2) (SH ++ ([(ob, Ob.vec [ov'])] ++ T'))) → ACalls Try.prog 85 [.optr b 0, .sl 1 none (ints (isort R)), .sl 1 none (ints (upto (par.length + 1))), .sl 1 none (ints []), .int .i64 c, .int .i64 i, .fn 86 [.optr ob 0, .iptr [.optr b 0], .iptr [.int .i64 most]]] (SH ++ ([(ob, Ob.vec [ov])] ++ T)) K := by
                  rw [hSH]
                  intro K hK
                  exact walkO hn0 hn hc hp hN.2 f2 _ _ _ _ _ _ _ _ _ _ hwk hov hK
                refine hw _ fun ov2 T2 hov2 => ?_
                rcases id hov2 with ⟨ho2, rfl, rfl⟩ | ⟨q3, rfl, rfl⟩
                · conv => whnf
                  repeat ((refine ⟨_, _, List.mem_append_right _ (.head _), rfl, ?_⟩); conv => whnf)
                  refine ⟨fun hb => ?_, fun hb => ?_⟩
                  · have hb : (o2.length : Int) = most := by first | simpa using hb | (rw [ho2]; simpa using hb)
                    rw [if_pos hb] at hx
                    cases hx
                    conv => whnf
                    repeat (refine ⟨gP_of ⟨by omega, by omega⟩, ?_⟩; conv => whnf)
                    exact ⟨_, _, Turn.refl _ _, f, by omega, f, c + 1, _, _, _, rfl, rfl, rfl, hov2, by omega, by omega, he⟩
                  · have hb : ¬ (o2.length : Int) = most := by first | simpa using hb | (rw [ho2]; simpa using hb)
                    rw [if_neg hb] at hx
                    conv => whnf
                    repeat (refine ⟨gP_of ⟨by omega, by omega⟩, ?_⟩; conv => whnf)
                    exact ⟨_, _, Turn.refl _ _, _, by omega, i + 1, o2, _, _, rfl, rfl, rfl, by omega, hov2, hx⟩
                · conv => whnf
                  repeat ((refine ⟨_, _, List.mem_append_right _ (.head _), rfl, ?_⟩); conv => whnf)
                  refine ⟨fun hb => ?_, fun hb => ?_⟩
                  · have hb : (o2.length : Int) = most := by first | simpa using hb | (rw [ho2]; simpa using hb)
                    rw [if_pos hb] at hx
                    cases hx
                    conv => whnf
                    repeat (refine ⟨gP_of ⟨by omega, by omega⟩, ?_⟩; conv => whnf)
                    exact ⟨_, _, Turn.refl _ _, f, by omega, f, c + 1, _, _, _, rfl, rfl, rfl, hov2, by omega, by omega, he⟩
                  · have hb : ¬ (o2.length : Int) = most := by first | simpa using hb | (rw [ho2]; simpa using hb)
                    rw [if_neg hb] at hx
                    conv => whnf
                    repeat (refine ⟨gP_of ⟨by omega, by omega⟩, ?_⟩; conv => whnf)
                    exact ⟨_, _, Turn.refl _ _, _, by omega, i + 1, o2, _, _, rfl, rfl, rfl, by omega, hov2, hx⟩
              · rw [drop_nil (by rw [upto_len]; omega), chGo] at hx
                cases hx
                conv => whnf
                repeat (refine ⟨gP_of ⟨by omega, by omega⟩, ?_⟩; conv => whnf)
                exact ⟨_, _, Turn.refl _ _, f, by omega, f, c + 1, _, _, _, rfl, rfl, rfl, hov, by omega, by omega, he⟩
          · have hb : ¬ (o0.length : Int) < min most all := by first | simpa using hb | (rw [ho]; simpa using hb)
            rw [if_neg hb] at he
            cases he
            conv => whnf
            repeat ((first | (refine ⟨_, _, List.mem_append_right _ (.head _), rfl, ?_⟩) | (refine ⟨_, _, Rem.app SH (.here _), ⟨by simp, rfl⟩, ?_⟩)); conv => whnf)
            exact ⟨_, _, hov, rfl⟩
        · conv => whnf
          repeat ((refine ⟨_, _, List.mem_append_right _ (.head _), rfl, ?_⟩); conv => whnf)
          refine ⟨fun hb => ?_, fun hb => ?_⟩
          · have hb : (o0.length : Int) < min most all := by first | simpa using hb | (rw [ho]; simpa using hb)
            rw [if_pos hb] at he
            split at he
            · cases he
            rename_i oc hch
            conv => whnf
            repeat ((first | refine ⟨gP_of ⟨by omega, by omega⟩, ?_⟩ | (refine QCall.fr (h := SH) htot ?_)); conv => whnf)
            refine tloop rfl mixed [2, 3, 4, 5, 6, 7, 9, 44, 45] [] (fun m r h => ∃ (i : Nat) (o : List Rst) (ov : AV) (T : Heap), r = [(2, [], .iptr [.optr b 0]), (3, [], .iptr [.int .i64 most]), (4, [], .optr ob 0), (5, [], .sl 1 none (ints (isort R))), (6, [], .int .i64 all), (7, [], .sl 1 none (ints (upto (par.length + 1)))), (9, [], .int .i64 c), (44, [], .int .i64 (totM cells + 1)), (45, [], .int .i64 i)] ∧ h = SH ++ ([(ob, .vec [ov])] ++ T) ∧ m = (totM cells + 1).toNat - i ∧ i ≤ totM cells + 1 ∧ OVo o ov T ∧ chGo ((fun c r out => walkM n F cells ps par (restL cells ps par (totM cells + 1).toNat) most c f2 (isort R) (upto (par.length + 1)) [] r out) c) most ((upto (totM cells + 1)).drop i) o = some oc) ?_ ?_
            · conv => whnf
              exact ⟨_, _, Turn.refl _ _, _, 0, o0, _, _, rfl, rfl, rfl, by omega, hov, hch⟩
            · rintro mm rr hh ⟨i, o, ov, T, rfl, rfl, rfl, hi, hov, hx⟩
              conv => whnf
              refine ⟨fun hf => ?_, fun hf => ?_⟩ <;> simp at hf
              · rw [drop_cons (upto_get hf), chGo] at hx
                split at hx
                · cases hx
                rename_i o2 r2 hwk
                conv => whnf
                refine ACalls.args (args' := [.optr b 0, .sl 1 none (ints (isort R)), .sl 1 none (ints (upto (par.length + 1))), .sl 1 none (ints []), .int .i64 c, .int .i64 i, .fn 86 [.optr ob 0, .iptr [.optr b 0], .iptr [.int .i64 most]]]) ?_ (.cons (VLe.refl _) (.cons (VLe.refl _) (.cons (VLe.refl _) (.cons (VLe.nil (by decide)) (VsLe.refl _)))))
                have hw : ∀ K : AV → Heap → Prop, (∀ ov' T', OVo o2 ov' T' → K (.bool r2) (SH ++ ([(ob, Ob.vec [ov'])] ++ T'))) → ACalls Try.prog 85 [.optr b 0, .sl 1 none (ints (isort R)), .sl 1 none (ints (upto (par.length + 1))), .sl 1 none (ints []), .int .i64 c, .int .i64 i, .fn 86 [.optr ob 0, .iptr [.optr b 0], .iptr [.int .i64 most]]] (SH ++ ([(ob, Ob.vec [ov])] ++ T)) K := by
                  rw [hSH]
                  intro K hK
                  exact walkO hn0 hn hc hp hN.2 f2 _ _ _ _ _ _ _ _ _ _ hwk hov hK
                refine hw _ fun ov2 T2 hov2 => ?_
                rcases id hov2 with ⟨ho2, rfl, rfl⟩ | ⟨q3, rfl, rfl⟩
                · conv => whnf
                  repeat ((refine ⟨_, _, List.mem_append_right _ (.head _), rfl, ?_⟩); conv => whnf)
                  refine ⟨fun hb => ?_, fun hb => ?_⟩
                  · have hb : (o2.length : Int) = most := by first | simpa using hb | (rw [ho2]; simpa using hb)
                    rw [if_pos hb] at hx
                    cases hx
                    conv => whnf
                    repeat (refine ⟨gP_of ⟨by omega, by omega⟩, ?_⟩; conv => whnf)
                    exact ⟨_, _, Turn.refl _ _, f, by omega, f, c + 1, _, _, _, rfl, rfl, rfl, hov2, by omega, by omega, he⟩
                  · have hb : ¬ (o2.length : Int) = most := by first | simpa using hb | (rw [ho2]; simpa using hb)
                    rw [if_neg hb] at hx
                    conv => whnf
                    repeat (refine ⟨gP_of ⟨by omega, by omega⟩, ?_⟩; conv => whnf)
                    exact ⟨_, _, Turn.refl _ _, _, by omega, i + 1, o2, _, _, rfl, rfl, rfl, by omega, hov2, hx⟩
                · conv => whnf
                  repeat ((refine ⟨_, _, List.mem_append_right _ (.head _), rfl, ?_⟩); conv => whnf)
                  refine ⟨fun hb => ?_, fun hb => ?_⟩
                  · have hb : (o2.length : Int) = most := by first | simpa using hb | (rw [ho2]; simpa using hb)
                    rw [if_pos hb] at hx
                    cases hx
                    conv => whnf
                    repeat (refine ⟨gP_of ⟨by omega, by omega⟩, ?_⟩; conv => whnf)
                    exact ⟨_, _, Turn.refl _ _, f, by omega, f, c + 1, _, _, _, rfl, rfl, rfl, hov2, by omega, by omega, he⟩
                  · have hb : ¬ (o2.length : Int) = most := by first | simpa using hb | (rw [ho2]; simpa using hb)
                    rw [if_neg hb] at hx
                    conv => whnf
                    repeat (refine ⟨gP_of ⟨by omega, by omega⟩, ?_⟩; conv => whnf)
                    exact ⟨_, _, Turn.refl _ _, _, by omega, i + 1, o2, _, _, rfl, rfl, rfl, by omega, hov2, hx⟩
              · rw [drop_nil (by rw [upto_len]; omega), chGo] at hx
                cases hx
                conv => whnf
                repeat (refine ⟨gP_of ⟨by omega, by omega⟩, ?_⟩; conv => whnf)
                exact ⟨_, _, Turn.refl _ _, f, by omega, f, c + 1, _, _, _, rfl, rfl, rfl, hov, by omega, by omega, he⟩
          · have hb : ¬ (o0.length : Int) < min most all := by first | simpa using hb | (rw [ho]; simpa using hb)
            rw [if_neg hb] at he
            cases he
            conv => whnf
            repeat ((first | (refine ⟨_, _, List.mem_append_right _ (.head _), rfl, ?_⟩) | (refine ⟨_, _, Rem.app SH (.here _), ⟨by simp, rfl⟩, ?_⟩)); conv => whnf)
            exact ⟨_, _, hov, rfl⟩
end Go.Abs.Wall
set_option maxRecDepth 100000
set_option linter.unusedVariables false
namespace Go.Abs.Wall
open Go Go.Abs Go.Proofs
/-! ### those of a row that are to go -/
theorem rowS_split {A B : List Rst} {x : Rst} : rowS (A ++ x :: B) = rowS A ++ (encRst x ++ rowS B) := by rw [rowS_app]; simp [rowS]
theorem ldS {h : Heap} {q i : Nat} {O : List Rst} {x : Rst} {K : AV → Prop} (hm : (q, Ob.vec (rowS O)) ∈ h) (hx : O[i]? = some x) (hk : K (.agg (encRst x))) :
    ∃ cs l, (q, Ob.vec cs) ∈ h ∧ dropN (0 + i * 4) cs = some l ∧ loadI Try.prog 36 l K := by
  obtain ⟨hi, hxi⟩ := List.getElem?_eq_some_iff.1 hx
  have hsp : O = O.take i ++ x :: O.drop (i + 1) := by
    rw [← hxi, List.getElem_cons_drop, List.take_append_drop]
  have htl : (rowS (O.take i)).length = 0 + i * 4 := by rw [rowS_len, List.length_take]; omega
  refine ⟨_, encRst x ++ rowS (O.drop (i + 1)), hm, ?_, ?_⟩
  · rw [dropN_some (by rw [rowS_len]; omega)]
    congr 1
    rw [show rowS O = rowS (O.take i) ++ (encRst x ++ rowS (O.drop (i + 1))) from by rw [← rowS_split, ← hsp], ← htl, List.drop_left]
  · exact hk
theorem ldC0 {h : Heap} {q : Nat} {O : List Rst} {x0 : Rst} {K : AV → Prop} (hm : (q, Ob.vec (rowS (x0 :: O))) ∈ h) (hk : K (.int .i64 x0.changes)) :
    ∃ cs l, (q, Ob.vec cs) ∈ h ∧ dropN (0 + 0 * 4 + 3) cs = some l ∧ loadI Try.prog 3 l K := ⟨_, .int .i64 x0.changes :: rowS O, hm, rfl, hk⟩
def c73 : Cfg := ⟨[0, 1, 2, 3], [], [], [], [(1, [0, 1, 2, 3, 4, 5, 6, 7], [])], []⟩
def c109 : Cfg := ⟨[0, 1, 4, 5, 7, 8, 9, 16], [], [], [], [], []⟩
def c72 : Cfg := ⟨[0, 1, 4, 5, 6, 7, 12, 19, 29], [], [7], [], [], []⟩
theorem delF {H : Heap} {r x0 : Rst} {O : List Rst} {ab q N : Nat} (h1 : (ab, Ob.vec [.osl q 0 N 4]) ∈ H) (h2 : (q, Ob.vec (rowS (x0 :: O))) ∈ H) (hN : 0 < N) :
    QCall Try.prog 73 [.agg (encRst r), .optr ab 0] H (.bool (decide (x0.changes < r.changes))) := by
  refine fcalls (F := Try.f73) c73 rfl rfl rfl mixed rfl fun X => ?_
  conv => whnf
  repeat ((first | (refine ⟨_, _, h1, rfl, ?_⟩) | (refine ⟨0, gP_of ⟨rfl, hN⟩, ?_⟩) | (refine ldC0 h2 ?_) | refine And.intro (by show drawOK (opsAt Try.f73 _) _ = true; decide +kernel) ?_); conv => whnf)
  exact ⟨rfl, rfl⟩
theorem idxF {H : Heap} {x0 : Rst} {A B : List Rst} {ab q : Nat} (h1 : (ab, Ob.vec [.osl q 0 (x0 :: (A ++ B)).length 4]) ∈ H) (h2 : (q, Ob.vec (rowS (x0 :: (A ++ B)))) ∈ H) (hA : ∀ x ∈ A, ¬ x0.changes < x.changes) (hB : ∀ x ∈ B, x0.changes < x.changes) (hl : (A ++ B).length ≤ 1000) :
    QCall Try.prog 109 [.osl q 0 (x0 :: (A ++ B)).length 4, .fn 73 [.optr ab 0]] H (.int .i64 (if B = [] then -1 else (x0 :: A).length)) := by
  obtain ⟨O, hO⟩ : ∃ O, O = x0 :: (A ++ B) := ⟨_, rfl⟩
  have hlen : O.length = (x0 :: A).length + B.length := by rw [hO]; simp; omega
  have hN : 0 < O.length := by rw [hO]; simp
  have hl2 : O.length ≤ 1001 := by rw [hO]; simp at hl ⊢; omega
  have hd := fun r => delF (r := r) h1 h2 (by simp)
  rw [← hO] at h1 h2 ⊢
  refine fcalls (F := Try.f109) c109 rfl rfl rfl mixed rfl fun X => ?_
  conv => whnf
  skip
  refine sloop rfl mixed [0, 1, 7, 8] [] (fun m r h => ∃ (i : Nat), r = [(0, [], .osl q 0 O.length 4), (1, [], .fn 73 [.optr ab 0]), (7, [], .int .i64 O.length), (8, [], .int .i64 i)] ∧ h = H ∧ m = O.length - i ∧ i ≤ (x0 :: A).length) ?_ ?_
  · conv => whnf
    exact ⟨_, 0, rfl, rfl, rfl, by omega⟩
  · rintro m rr hh ⟨i, rfl, rfl, rfl, hi⟩
    conv => whnf
    refine ⟨fun hf => ?_, fun hf => ?_⟩ <;> simp only [decide_eq_true_eq, decide_eq_false_iff_not] at hf
    · obtain ⟨x, hx⟩ := get_lt (l := O) (i := i) (by omega)
      have hdx := hd x
      by_cases hia : i < (x0 :: A).length
      · have hxa : x ∈ x0 :: A := by
          rw [hO, ← List.cons_append, List.getElem?_append_left hia] at hx
          exact List.mem_of_getElem? hx
        have hnd : ¬ x0.changes < x.changes := by
          rcases List.mem_cons.1 hxa with rfl | h
          · omega
          · exact hA x h
        conv => whnf
        repeat ((first | (refine ixo (i := i) (by omega) ?_) | (refine ldS h2 hx ?_) | (refine QCall.k hdx ?_)); conv => whnf)
        refine cF (by simpa using hnd) ?_
        conv => whnf
        repeat (refine ⟨gP_of ⟨by omega, by omega⟩, ?_⟩; conv => whnf)
        exact ⟨_, by omega, i + 1, rfl, rfl, rfl, by omega⟩
      · have hie : i = (x0 :: A).length := by omega
        have hxb : x ∈ B := by
          rw [hO, ← List.cons_append, List.getElem?_append_right (by omega)] at hx
          exact List.mem_of_getElem? hx
        have hnd := hB x hxb
        conv => whnf
        repeat ((first | (refine ixo (i := i) (by omega) ?_) | (refine ldS h2 hx ?_) | (refine QCall.k hdx ?_)); conv => whnf)
        refine cT (by simpa using hnd) ?_
        conv => whnf
        skip
        rw [if_neg (by intro e; rw [e] at hxb; cases hxb), hie]
        exact ⟨rfl, rfl⟩
    · have hBe : B = [] := List.eq_nil_of_length_eq_zero (by omega)
      conv => whnf
      skip
      rw [if_pos hBe]
      exact ⟨rfl, rfl⟩
theorem delW {x0 : Rst} {A B : List Rst} {ab q : Nat} (hA : ∀ x ∈ A, ¬ x0.changes < x.changes) (hB : ∀ x ∈ B, x0.changes < x.changes) (hl : (A ++ B).length ≤ 1000) :
    ACalls Try.prog 72 [.osl q 0 (x0 :: (A ++ B)).length 4, .fn 73 [.optr ab 0]] [(ab, .vec [.osl q 0 (x0 :: (A ++ B)).length 4]), (q, .vec (rowS (x0 :: (A ++ B))))]
      (fun v h' => v = .osl q 0 (x0 :: A).length 4 ∧ ∃ Z, h' = [(ab, .vec [.osl q 0 (x0 :: (A ++ B)).length 4]), (q, .vec (rowS (x0 :: A) ++ Z))]) := by
  have hix := idxF (H := [(ab, Ob.vec [.osl q 0 (x0 :: (A ++ B)).length 4]), (q, Ob.vec (rowS (x0 :: (A ++ B))))]) (.head _) (.tail _ (.head _)) hA hB hl
  have hd := fun r => delF (H := [(ab, Ob.vec [.osl q 0 (x0 :: (A ++ B)).length 4]), (q, Ob.vec (rowS (x0 :: (A ++ B))))]) (r := r) (.head _) (.tail _ (.head _)) (by simp)
  have hsp : rowS (x0 :: (A ++ B)) = rowS (x0 :: A) ++ rowS B := by rw [← List.cons_append, rowS_app]
  obtain ⟨O, hO⟩ : ∃ O, O = x0 :: (A ++ B) := ⟨_, rfl⟩
  have hlen : O.length = (x0 :: A).length + B.length := by rw [hO]; simp; omega
  have hl2 : O.length ≤ 1001 := by rw [hO]; simp at hl ⊢; omega
  have hAl : (x0 :: A).length = A.length + 1 := rfl
  rw [← hO] at hix hd hsp ⊢
  refine fcalls (F := Try.f72) c72 rfl rfl rfl mixed rfl fun X => ?_
  conv => whnf
  repeat ((refine QCall.k hix ?_); conv => whnf)
  by_cases hBe : B = []
  · rw [if_pos hBe]
    refine cT (by simp) ?_
    conv => whnf
    skip
    subst hBe
    refine ⟨?_, [], ?_⟩
    · rw [show O.length = (x0 :: A).length from by simpa using hlen]
    · rw [hsp]; simp [rowS]
  · have hBp : 0 < B.length := List.length_pos_iff.2 hBe
    rw [if_neg hBe]
    refine cF (by simp; omega) ?_
    conv => whnf
    repeat (refine ⟨gP_of ⟨by omega, by omega⟩, ?_⟩; conv => whnf)
    refine sloop rfl mixed [0, 1, 5, 6] [] (fun m r h => ∃ (j : Nat), r = [(0, [], .osl q 0 O.length 4), (1, [], .fn 73 [.optr ab 0]), (5, [], .int .i64 (x0 :: A).length), (6, [], .int .i64 j)] ∧ h = [(ab, Ob.vec [.osl q 0 O.length 4]), (q, Ob.vec (rowS O))] ∧ m = O.length - j ∧ (x0 :: A).length ≤ j ∧ j ≤ O.length) ?_ ?_
    · conv => whnf
      exact ⟨_, (x0 :: A).length + 1, by simp, rfl, rfl, by omega, by omega⟩
    · rintro m rr hh ⟨j, rfl, rfl, rfl, hj1, hj2⟩
      conv => whnf
      refine ⟨fun hf => ?_, fun hf => ?_⟩ <;> simp only [decide_eq_true_eq, decide_eq_false_iff_not] at hf
      · obtain ⟨x, hx⟩ := get_lt (l := O) (i := j) (by omega)
        have hxb : x ∈ B := by
          rw [hO, ← List.cons_append, List.getElem?_append_right hj1] at hx
          exact List.mem_of_getElem? hx
        have hnd := hB x hxb
        have hdx := hd x
        conv => whnf
        repeat ((first | (refine ixo (i := j) (by omega) ?_) | (refine ldS (.tail _ (.head _)) hx ?_) | (refine QCall.k hdx ?_) | refine ⟨_, _, Rem.here _, ⟨Nat.le_of_ble_eq_true rfl, rfl⟩, ?_⟩
                       | intro (nb : Nat)); conv => whnf)
        refine cF (by simpa using hnd) ?_
        conv => whnf
        repeat (refine ⟨gP_of ⟨by omega, by omega⟩, ?_⟩; conv => whnf)
        exact ⟨_, by omega, j + 1, rfl, rfl, rfl, by omega, by omega⟩
      · conv => whnf
        repeat (refine ⟨gP_of ⟨by omega, by omega⟩, ?_⟩; conv => whnf)
        have hset : setC (rowS O) (0 + ((x0 :: A).length : Int).toNat * 4) (repC ((O.length : Int).toNat - ((x0 :: A).length : Int).toNat) [AV.nilS, AV.nilS, AV.nilS, AV.int IntKind.i64 0]) = rowS (x0 :: A) ++ repC (O.length - (x0 :: A).length) [AV.nilS, AV.nilS, AV.nilS, AV.int IntKind.i64 0] := by
          have hrA := rowS_len (x0 :: A)
          have hrB := rowS_len B
          have hZl : (repC (O.length - (x0 :: A).length) [AV.nilS, AV.nilS, AV.nilS, AV.int IntKind.i64 0]).length = (O.length - (x0 :: A).length) * 4 := by unfold repC; simp
          rw [Int.toNat_natCast, Int.toNat_natCast, Nat.zero_add]
          unfold setC
          rw [hZl, hsp, ← hrA, List.take_left, List.drop_of_length_le (by rw [List.length_append, hrB, hrA]; omega), List.append_nil]
        refine ⟨rowS O, _, .there (.here _), ⟨by omega, by rw [rowS_len]; omega⟩, ?_⟩
        rw [hset]
        conv => whnf
        repeat (refine ⟨gP_of ⟨by omega, by omega⟩, ?_⟩; conv => whnf)
        exact ⟨by simp, _, rfl⟩
end Go.Abs.Wall
set_option maxRecDepth 100000
set_option linter.unusedVariables false
namespace Go.Abs.Wall
open Go Go.Abs Go.Proofs Go.Proofs.Ytbgnfchlelhbeaa.Br
/-! ### the signs that are certain -/
def inCell (c : Int) : List Int → List Int → List Int
  | x :: xs, s :: ss => if x = c then s :: inCell c xs ss else inCell c xs ss
  | _, _ => []
def certGo (c : Int) : List Rst → Nat → Int → Int
  | [], _, o => o
  | r :: rs, k, o => match inCell c r.cells r.signs with
    | [s] => if 0 < k ∧ s ≠ o then -1 else certGo c rs (k + 1) s
    | _ => -1
def bestL (O : List Rst) : List Rst := O.takeWhile fun r => decide (r.changes ≤ (O.headD rst0).changes)
def allR (l : Lst) (cells : List Cel) (par : List Int) : List Rst := ((allLines l.signs.length cells par).take 65).map (restored cells par)
def certR (l : Lst) (cells : List Cel) (par : List Int) : List Int × Int :=
  if checkErr1 l cells par ≠ 0 then ([], checkErr1 l cells par) else
  if 64 < (bestL (allR l cells par)).length then ([], 2) else ((List.range cells.length).map fun (c : Nat) => certGo c (bestL (allR l cells par)) 0 0, 0)
def encIE (x : List Int × Int) : AV := .tup [.sl 1 none (ints x.1), .int .i64 x.2]
theorem up_split {c : Int} : ∀ {L : List Rst}, L.Pairwise (fun a b => a.changes ≤ b.changes) → ∃ A B, L = A ++ B ∧ (∀ x ∈ A, x.changes ≤ c) ∧ (∀ x ∈ B, c < x.changes)
  | [], _ => ⟨[], [], rfl, by simp, by simp⟩
  | x :: L, h => by
    rw [List.pairwise_cons] at h
    by_cases hx : x.changes ≤ c
    · obtain ⟨A, B, rfl, h1, h2⟩ := up_split (c := c) h.2
      refine ⟨x :: A, B, rfl, fun y hy => ?_, h2⟩
      rcases List.mem_cons.1 hy with rfl | hy
      · exact hx
      · exact h1 y hy
    · refine ⟨[], x :: L, rfl, by simp, fun y hy => ?_⟩
      rcases List.mem_cons.1 hy with rfl | hy
      · omega
      · have := h.1 y hy; omega
theorem takeWhile_split {p : Rst → Bool} {A B : List Rst} (h1 : ∀ x ∈ A, p x = true) (h2 : ∀ x ∈ B, p x = false) : (A ++ B).takeWhile p = A := by
  induction A with
  | nil => cases B with
    | nil => rfl
    | cons b B => simp [h2 b (by simp)]
  | cons a A ih =>
    rw [List.cons_append, List.takeWhile_cons_of_pos (h1 a (by simp)), ih fun x hx => h1 x (by simp [hx])]
/-- the first ones that are listed: the best ones, the others -/
theorem all_split {l : Lst} {cells : List Cel} {par : List Int} (hd : checkErr1 l cells par = 0) : ∃ x0 A B, allR l cells par = x0 :: (A ++ B) ∧ bestL (allR l cells par) = x0 :: A ∧ (∀ x ∈ A, x.changes = x0.changes) ∧ (∀ x ∈ B, x0.changes < x.changes) ∧ (A ++ B).length ≤ 1000 ∧
    (∀ x ∈ x0 :: (A ++ B), x.cells.length = x.signs.length ∧ x.signs.length ≤ 60 ∧ ∀ s ∈ x.signs, 0 ≤ s) := by
  obtain ⟨h4, h5⟩ := check1_iff.1 hd
  obtain ⟨w, ws, hw⟩ := all_ne (par := par) (by omega) (check_right h4) (line_ok h5).1
  have hup := all_up l.signs.length cells par
  have hmem := fun v => mem_all (n := l.signs.length) (par := par) (w := v) (check_right h4) (line_ok h5).1
  have hev : ∀ x ∈ allR l cells par, x.cells.length = x.signs.length ∧ x.signs.length ≤ 60 ∧ ∀ s ∈ x.signs, 0 ≤ s := by
    intro x hx
    obtain ⟨v, hv, rfl⟩ := List.mem_map.1 hx
    have hv := (hmem v).1 (List.mem_of_mem_take hv)
    have e1 := restored_ev (check_right h4) (line_ok h5).1 hv.2
    have hwl := (acc_len (check_right h4) hv.2).2
    have := e1.sl; have := e1.dl
    exact ⟨by omega, hwl, fun s hs => (hv.1 s hs).1⟩
  have hpw : (allR l cells par).Pairwise fun a b => a.changes ≤ b.changes := by
    unfold allR
    rw [List.pairwise_map]
    refine (hup.sublist (List.take_sublist _ _)).imp ?_
    intro a b hab
    show dist a par ≤ dist b par
    rcases hab with h | h
    · omega
    · omega
  have hlen : (allR l cells par).length ≤ 65 := by unfold allR; simp; omega
  have hne : ∃ x0 O, allR l cells par = x0 :: O := by
    unfold allR; rw [hw]; exact ⟨_, _, rfl⟩
  obtain ⟨x0, O, hO⟩ := hne
  rw [hO] at hpw hev hlen
  obtain ⟨A, B, rfl, h1, h2⟩ := up_split (c := x0.changes) (List.pairwise_cons.1 hpw).2
  refine ⟨x0, A, B, hO, ?_, fun x hx => ?_, h2, by simp at hlen ⊢; omega, hev⟩
  · unfold bestL
    rw [hO]
    show List.takeWhile (fun r => decide (r.changes ≤ x0.changes)) ((x0 :: A) ++ B) = x0 :: A
    refine takeWhile_split (fun x hx => ?_) fun x hx => ?_
    · rcases List.mem_cons.1 hx with rfl | hx
      · simp
      · simpa using h1 x hx
    · have := h2 x hx; simpa using this
  · have := h1 x hx
    have := (List.pairwise_cons.1 hpw).1 x (by simp [hx])
    omega
theorem inCell_drop {c : Int} {xs ss : List Int} {i : Nat} {x s : Int} (hx : xs[i]? = some x) (hs : ss[i]? = some s) : inCell c (xs.drop i) (ss.drop i) = if x = c then s :: inCell c (xs.drop (i + 1)) (ss.drop (i + 1)) else inCell c (xs.drop (i + 1)) (ss.drop (i + 1)) := by
  rw [drop_cons hx, drop_cons hs, inCell]
theorem inCell_end {c : Int} {xs ss : List Int} {i : Nat} (h : xs.length ≤ i) : inCell c (xs.drop i) (ss.drop i) = [] := by
  rw [drop_nil h, inCell]
  intro x xs' s ss' h; cases h
theorem ovo_ne {O : List Rst} {v : AV} {T : Heap} (h : OVo O v T) (hne : O ≠ []) : ∃ q, v = .osl q 0 O.length 4 ∧ T = [(q, .vec (rowS O))] := by
  rcases h with ⟨rfl, _⟩ | h
  · exact absurd rfl hne
  · exact h
theorem firstQ {n : Int} {cells : List Cel} {par : List Int} {pq b km : Nat} {out : List Rst} {most : Int} {D : Heap} (hn0 : 0 ≤ n) (hn : n ≤ 1048576) (hc : CelsOK cells) (hp : par.length ≤ 60) (hm : most ≤ 1048576) (hne : out ≠ [])
    (h : firstM n 20000 cells (posOf cells 0) par most 1000 1000 10000 = some out) :
    ACalls Try.prog 51 [.optr b 0, .int .i64 most] (D ++ sh n cells par (.sl 2 (some pq) ((posOf cells 0).map encPos)) (posOf cells 0) .nilS b km) (fun v h' => ∃ q, v = .osl q 0 out.length 4 ∧ h' = [(q, .vec (rowS out))]) := by
  refine ACalls.post (ACalls.pre (firstO hn0 hn hc hp (posOf_pos hc) (by omega) (by omega) hm h) (fun k o hm => List.mem_append_right _ hm) (fun hnd => by
    simp only [keys, List.map_append, List.nodup_append] at hnd ⊢
    exact hnd.2.1)) ?_
  rintro v h1 ⟨SHx, T, hov, rfl⟩
  obtain ⟨q, rfl, rfl⟩ := ovo_ne hov hne
  refine ⟨_, _, ⟨q, rfl, rfl⟩, VLe.refl _, fun k o hm => List.mem_append_right _ hm, fun hnd => ?_⟩
  simp only [keys, List.map_append, List.nodup_append] at hnd ⊢
  exact hnd.2.1
theorem junk_osl {b off len k : Nat} : VLe (.osl b off len k) .junk := by
  intro c u hu
  simp only [Rep] at hu ⊢
  obtain ⟨p, cap, _, _, rfl, _⟩ := hu
  rfl
theorem delQ {x0 : Rst} {A B : List Rst} {ab q : Nat} (hA : ∀ x ∈ A, ¬ x0.changes < x.changes) (hB : ∀ x ∈ B, x0.changes < x.changes) (hl : (A ++ B).length ≤ 1000) :
    ACalls Try.prog 72 [.osl q 0 (x0 :: (A ++ B)).length 4, .fn 73 [.optr ab 0]] [(ab, .vec [.osl q 0 (x0 :: (A ++ B)).length 4]), (q, .vec (rowS (x0 :: (A ++ B))))]
      (fun v h' => v = .sl 4 none ((x0 :: A).map encRst) ∧ h' = [(ab, .vec [.junk])]) := by
  refine ACalls.frz (delW hA hB hl) ?_
  rintro v h1 ⟨rfl, Z, rfl⟩
  refine ⟨q, _, _, _, _, .there (.here _), .vec (.cons (.le junk_osl) .nil) .nil, FzV.row (pre := []) (post := [Z]) (xs' := []) ?_ rfl (by simp) (fun x hx => ?_), rfl, rfl⟩
  · simp [rowS]
  · obtain ⟨r, _, rfl⟩ := List.mem_map.1 hx
    rfl
end Go.Abs.Wall
set_option maxRecDepth 100000
set_option linter.unusedVariables false
namespace Go.Abs.Wall
open Go Go.Abs Go.Proofs Go.Proofs.Ytbgnfchlelhbeaa.Br
theorem has_cases {L : List Int} : L = [] ∨ (∃ s, L = [s]) ∨ 2 ≤ L.length := by
  rcases L with _ | ⟨s, _ | ⟨t, u⟩⟩
  · exact .inl rfl
  · exact .inr (.inl ⟨s, rfl⟩)
  · exact .inr (.inr (by simp))
theorem certGo_bad {c : Int} {r : Rst} {rs : List Rst} {k : Nat} {o : Int} (h : (inCell c r.cells r.signs).length ≠ 1) : certGo c (r :: rs) k o = -1 := by
  rw [certGo]
  split
  · rename_i s hs; rw [hs] at h; simp at h
  · rfl
theorem certGo_one {c : Int} {r : Rst} {rs : List Rst} {k : Nat} {o s : Int} (h : inCell c r.cells r.signs = [s]) : certGo c (r :: rs) k o = if 0 < k ∧ s ≠ o then -1 else certGo c rs (k + 1) s := by
  rw [certGo, h]
theorem ACalls.frzOr {P : Program} {f : FuncId} {args : List AV} {R R' : AV → Heap → Prop} {h : Heap} (hf : ACalls P f args h R)
    (hp : ∀ v h1, R v h1 → R' v h1 ∨ ∃ b cs h2 h3 v', Rem b (.vec cs) h1 h2 ∧ FzH b cs h2 h3 ∧ FzV b cs v v' ∧ R' v' h3) : ACalls P f args h R' := by
  refine ⟨hf.1, fun X g w us hc hr => ?_⟩
  refine (hf.2 X g w us hc hr).mono fun e w' he => ?_
  obtain ⟨v, u, g', h1, rfl, hR, hc1, hu, hs⟩ := he
  rcases hp v h1 hR with hR' | ⟨b, cs, h2, h3, v', e1, e2, e3, e4⟩
  · exact ⟨v, u, g', h1, rfl, hR', hc1, hu, hs⟩
  obtain ⟨c1, s1, hv⟩ := Abs.freeze e1 hc1
  have hsub : ∀ k o, (k, o) ∈ h2 → (k, o) ∈ h1 := by
    obtain ⟨l1, l2, rfl, rfl⟩ := Rem.split e1
    intro k o hm
    simp only [List.mem_append, List.mem_cons] at hm ⊢
    rcases hm with h | h
    · exact .inl h
    · exact .inr (.inr h)
  obtain ⟨c2, s2⟩ := c1.objs e2.keys (fun k o' hm => by
    rcases e2.get k o' hm with h1 | ⟨xs, ys, rfl, h2, h3⟩
    · exact c1.obj k o' h1
    · obtain ⟨p, cc, t, q1, q2, q3, q4, q5, q6⟩ := hc1.obj k (.vec xs) (hsub _ _ h2)
      obtain ⟨l, hg⟩ := h3.get
      refine ⟨p, cc, t, q1, q2, q3, q4, by rw [← l]; exact q5, fun i y hy => ?_⟩
      obtain ⟨x, hx, hxy⟩ := hg i y hy
      obtain ⟨u, u1, u2, u3⟩ := q6 i x hx
      exact ⟨u, u1, u2, hv x y hxy u u3⟩)
  exact ⟨v', u, g', h3, rfl, e4, c2, Rep.mono (Step.le s2) _ _ (hv v v' e3 u hu), hs.trans hc.own (s1.trans hc1.own s2)⟩
/-- nil and an error, or a row of one's own that is given away -/
def GIV (N : Nat) (F : Nat → Int) (T : List Int × Int) (v : AV) (h : Heap) : Prop := VLe v (encIE T) ∨ ∃ b, v = .tup [.osl b 0 N 1, .int .i64 0] ∧ ∃ A, h = (b, .vec (rowsF N fun j => .int .i64 (F j))) :: A ∧ T = ((List.range N).map F, 0)
theorem GIV.ok {f : FuncId} {args : List AV} {N : Nat} {F : Nat → Int} {T : List Int × Int} (h : ACalls Try.prog f args [] (GIV N F T)) : QCall Try.prog f args [] (encIE T) := by
  refine QCall.of (ACalls.frzOr h ?_)
  rintro v h1 (h | ⟨b, rfl, A, rfl, rfl⟩)
  · exact .inl h
  · refine .inr ⟨b, _, A, A, _, .here _, FzH.refl _, .tup (.cons (fzF rfl) (.cons (.refl _) .nil)), ?_⟩
    show VLe _ (encIE _)
    unfold encIE ints
    rw [List.map_map]
    exact VLe.refl _
theorem rowStep {N c : Nat} {G : Nat → Int} {o v : Int} (hv : G c = v) : ∀ j, j < N → (if j = 0 + c * 1 then AV.int .i64 v else if j < c then .int .i64 (G j) else if j = c then .int .i64 o else .int .i64 0) = (if j < c + 1 then .int .i64 (G j) else .int .i64 0) := by
  intro j hj
  by_cases h : j = c
  · subst h; rw [if_pos (by omega), if_pos (by omega), hv]
  · rw [if_neg (by omega)]
    by_cases h2 : j < c
    · rw [if_pos h2, if_pos (by omega)]
    · rw [if_neg h2, if_neg h, if_neg (by omega)]
theorem rowStep2 {N c : Nat} {G : Nat → Int} {o v : Int} : ∀ j, j < N → (if j = 0 + c * 1 then AV.int .i64 v else if j < c then .int .i64 (G j) else if j = c then .int .i64 o else .int .i64 0) = (if j < c then .int .i64 (G j) else if j = c then .int .i64 v else .int .i64 0) := by
  intro j hj
  by_cases h : j = c
  · subst h; rw [if_pos (by omega), if_neg (by omega), if_pos rfl]
  · rw [if_neg (by omega), if_neg h, if_neg h]
theorem rowEnd {N c : Nat} {G : Nat → Int} {o : Int} (hv : G c = o) : ∀ j, j < N → (if j < c then AV.int .i64 (G j) else if j = c then .int .i64 o else .int .i64 0) = (if j < c + 1 then .int .i64 (G j) else .int .i64 0) := by
  intro j hj
  by_cases h : j = c
  · subst h; rw [if_neg (by omega), if_pos rfl, if_pos (by omega), hv]
  · by_cases h2 : j < c
    · rw [if_pos h2, if_pos (by omega)]
    · rw [if_neg h2, if_neg h, if_neg (by omega)]
theorem hasOne {hs : List Int} {a b : Nat} {c : Bool} : gP [(a, !decide (((ints hs).length : Int) = 1), false), (b, c, true)] ((0 : Int) ≤ 0 ∧ (0 : Int) < hs.length) := by
  intro g1 g2
  have g3 : (hs.length : Int) = 1 := by simpa using g1
  exact ⟨Int.le_refl _, by omega⟩
def c38 : Cfg := ⟨[0, 1, 2, 3, 6, 7, 8, 9, 10, 11, 12, 13, 14, 15, 16, 23, 37, 42, 43, 44, 46, 47, 48, 49, 54, 55, 56, 57, 63, 89], [9], [13], [], [(22, [0, 1, 2, 3, 4, 5, 6, 7, 8, 9, 10, 11, 12, 13, 14, 15, 16], [])], []⟩
theorem wallCertain (l : Lst) (cells : List Cel) (par : List Int) (hl : LstFit l) (hc : CelsFit cells) (hn : par.length ≤ LMAX) :
    QCall Try.prog 38 [.agg (encLst l), .sl 3 none (cells.map encCel), .sl 1 none (ints par)] [] (encIE (certR l cells par)) := by
  unfold certR
  refine GIV.ok (N := cells.length) (F := fun c => certGo (c : Int) (bestL (allR l cells par)) 0 0) ?_
  refine fcalls (F := Try.f38) c38 rfl rfl rfl mixed rfl fun X => ?_
  conv => whnf
  repeat (refine QCall.k0 (wallCheck1 l cells par hl hc hn) ?_; conv => whnf)
  refine ⟨fun hd => ?_, fun hd => ?_⟩ <;> simp at hd
  · rw [if_pos hd]
    conv => whnf
    skip
    exact .inl (nilTup (by decide))
  rw [if_neg (by simpa using hd)]
  obtain ⟨h1, h2⟩ := check1_ok hd hc
  obtain ⟨h4, h5⟩ := check1_iff.1 hd
  have hls := lst_ok (check_lst h4)
  have hcl := h1.len
  have hf := firstM_spec (check_right h4) (line_ok h5).1 (most := 65) (by decide) (by decide)
  obtain ⟨x0, A, B, hO, hb, hA, hB, hAB, hev⟩ := all_split hd
  rw [show ((65 : Int).toNat) = 65 from rfl, show ((allLines l.signs.length cells par).take 65).map (restored cells par) = x0 :: (A ++ B) from hO] at hf
  rw [hb]
  obtain ⟨L, hL⟩ : ∃ L, L = x0 :: A := ⟨_, rfl⟩
  have hev2 : ∀ x ∈ L, x.cells.length = x.signs.length ∧ x.signs.length ≤ 60 ∧ ∀ s ∈ x.signs, 0 ≤ s := fun x hx => hev x (by rw [← List.cons_append, List.mem_append]; exact .inl (by rw [← hL]; exact hx))
  have hLl : L.length ≤ 1001 := by rw [hL]; simp at hAB ⊢; omega
  rw [← hL]
  conv => whnf
  rw [List.length_map]
  repeat ((refine ACalls.mono ?_ (newSearch l.signs.length cells par h1)); conv => whnf)
  rintro v h' ⟨b, m, q0, rfl, rfl⟩
  conv => whnf
  refine ACalls.mono ?_ (firstQ (by omega) (by omega) h1 h2 (by omega) (by simp) hf)
  rintro v h' ⟨q, rfl, rfl⟩
  conv => whnf
  repeat ((first | (refine ACalls.mono ?_ (delQ (fun x hx => by have := hA x hx; omega) hB hAB)) | refine ⟨_, _, .head _, rfl, ?_⟩ | refine ⟨_, _, .here _, leOK, ?_⟩ | intro (nb : Nat)); conv => whnf)
  rintro v h' ⟨rfl, rfl⟩
  conv => whnf
  rw [← hL]
  repeat ((first | refine ⟨_, _, .head _, rfl, ?_⟩ | refine ⟨_, _, .here _, leOK, ?_⟩); conv => whnf)
  rw [List.length_map]
  refine ⟨fun hg => ?_, fun hg => ?_⟩ <;> simp at hg
  · rw [if_pos (by omega)]
    conv => whnf
    skip
    exact .inl (nilTup (by decide))
  rw [if_neg (by omega)]
  conv => whnf
  skip
  revert nb
  intro ab
  refine ⟨⟨rfl, by omega, by rw [List.length_map]; omega⟩, ?_⟩
  intro rb
  conv => whnf
  rw [List.length_map, Int.toNat_natCast, repC_F]
  skip
  refine tloop rfl mixed [9, 10, 42, 43] [] (fun m r h => ∃ (c : Nat), r = [(9, [], .optr ab 0), (10, [], .osl rb 0 cells.length 1), (42, [], .int .i64 cells.length), (43, [], .int .i64 c)] ∧ h = [(rb, .vec (rowsF cells.length fun j => if j < c then .int .i64 (certGo (j : Int) L 0 0) else .int .i64 0)), (ab, Ob.vec [.sl 4 none (L.map encRst)])] ∧ m = cells.length - c ∧ c ≤ cells.length) ?_ ?_
  · conv => whnf
    exact ⟨_, _, Turn.refl _ _, _, 0, rfl, heap2 (rowsF_congr fun j hj => by simp) rfl, rfl, by omega⟩
  · rintro m r h ⟨c, rfl, rfl, rfl, hc⟩
    conv => whnf
    refine ⟨fun hf => ?_, fun hf => ?_⟩ <;> simp at hf
    · conv => whnf
      repeat (refine ⟨_, _, .tail _ (.head _), rfl, ?_⟩; conv => whnf)
      refine tloop rfl mixed [9, 10, 11, 42, 43, 46, 47, 48] [] (fun m r h => ∃ (k : Nat) (o : Int), r = [(9, [], .optr ab 0), (10, [], .osl rb 0 cells.length 1), (11, [], .int .i64 c), (42, [], .int .i64 cells.length), (43, [], .int .i64 c), (46, [], .sl 4 none (L.map encRst)), (47, [], .int .i64 (L.map encRst).length), (48, [], .int .i64 k)] ∧ h = [(rb, .vec (rowsF cells.length fun j => if j < c then .int .i64 (certGo (j : Int) L 0 0) else if j = c then .int .i64 o else .int .i64 0)), (ab, Ob.vec [.sl 4 none (L.map encRst)])] ∧ m = L.length - k ∧ k ≤ L.length ∧ certGo c L 0 0 = certGo c (L.drop k) k o) ?_ ?_
      · conv => whnf
        refine ⟨_, _, Turn.refl _ _, _, 0, 0, rfl, heap2 (rowsF_congr fun j hj => ?_) rfl, rfl, by omega, rfl⟩
        by_cases hjc : j < c <;> simp [hjc]
      · rintro m r h ⟨k, o, rfl, rfl, rfl, hk, hg⟩
        conv => whnf
        refine ⟨fun hf2 => ?_, fun hf2 => ?_⟩ <;> simp at hf2
        · obtain ⟨x, hx⟩ := get_lt hf2
          obtain ⟨e1, e2, e3⟩ := hev2 x (List.mem_of_getElem? hx)
          rw [drop_cons hx] at hg
          conv => whnf
          repeat ((first | refine ix (by assumption) ?_ | refine ⟨_, _, Rem.here _, ⟨Nat.le_of_ble_eq_true rfl, rfl⟩, ?_⟩ | intro (nb : Nat)); conv => whnf)
          refine sloop rfl mixed [9, 10, 11, 12, 13, 14, 42, 43, 46, 47, 48, 54, 55, 56] [(14, 1)] (fun m r h => ∃ (i : Nat) (hs : List Int) (q : Nat), r = [(9, [], .optr ab 0), (10, [], .osl rb 0 cells.length 1), (11, [], .int .i64 c), (12, [], .int .i64 k), (13, [], .iptr (encRst x)), (14, [], .sl 1 (some q) (ints hs)), (42, [], .int .i64 cells.length), (43, [], .int .i64 c), (46, [], .sl 4 none (L.map encRst)), (47, [], .int .i64 (L.map encRst).length), (48, [], .int .i64 k), (54, [], .sl 1 none (ints x.cells)), (55, [], .int .i64 (ints x.cells).length), (56, [], .int .i64 i)] ∧ h = [(q, .tok), (rb, .vec (rowsF cells.length fun j => if j < c then .int .i64 (certGo (j : Int) L 0 0) else if j = c then .int .i64 o else .int .i64 0)), (ab, Ob.vec [.sl 4 none (L.map encRst)])] ∧ m = x.cells.length - i ∧ i ≤ x.cells.length ∧ hs.length ≤ i ∧ inCell c x.cells x.signs = hs ++ inCell c (x.cells.drop i) (x.signs.drop i)) ?_ ?_
          · conv => whnf
            refine ⟨by decide, fun q => ?_⟩
            conv => whnf
            exact ⟨_, 0, [], q, rfl, rfl, rfl, by omega, by simp, rfl⟩
          · rintro m r h ⟨i, hs, q, rfl, rfl, rfl, hi, hhs, hin⟩
            conv => whnf
            refine ⟨fun hf3 => ?_, fun hf3 => ?_⟩ <;> simp at hf3
            · obtain ⟨y, hy⟩ := get_lt hf3
              obtain ⟨s, hs'⟩ := get_lt (l := x.signs) (i := i) (by omega)
              rw [inCell_drop hy hs'] at hin
              conv => whnf
              repeat (refine ix (by assumption) ?_; conv => whnf)
              refine ⟨fun hq => ?_, fun hq => ?_⟩ <;> simp at hq
              · rw [if_pos hq] at hin
                conv => whnf
                repeat ((first | refine ⟨gP_of ⟨by omega, by omega⟩, ?_⟩ | refine ix (by assumption) ?_ | (refine ⟨(by rw [List.length_append, ints_length]; show _ + 1 ≤ 4294967296; omega), fun q' => ⟨_, .here _, ?_⟩⟩)); conv => whnf)
                exact ⟨_, by omega, i + 1, hs ++ [s], q', by simp [ints], rfl, rfl, by omega, by simp; omega, by rw [hin]; simp⟩
              · rw [if_neg hq] at hin
                conv => whnf
                repeat (refine ⟨gP_of ⟨by omega, by omega⟩, ?_⟩; conv => whnf)
                exact ⟨_, by omega, i + 1, hs, q, rfl, rfl, rfl, by omega, by omega, hin⟩
            · rw [inCell_end (by omega), List.append_nil] at hin
              have hcc : c < cells.length := hf
              conv => whnf
              repeat ((first | (refine ixg (0 : Int) hasOne ?_) | (refine ixog (by intro g1 g2; show (0 : Int) ≤ _ ∧ _ < _; omega) ?_) | (refine ldoF (.int .i64 o) (.tail _ (.head _)) rfl ?_ ?_ ?_; (focus (first | omega | (simp <;> omega))); (focus (simp <;> (first | omega | (intro hq; omega)))))
                             | refine And.intro (by show drawOK (opsAt Try.f38 _) _ = true; decide +kernel) ?_); conv => whnf)
              rcases has_cases (L := hs) with rfl | ⟨s, rfl⟩ | h2
              · refine cT (by simp) ?_
                rw [certGo_bad (by rw [hin]; simp)] at hg
                conv => whnf
                repeat ((first | refine ⟨gP_of ⟨by omega, by omega⟩, ?_⟩ | (refine ixo (i := c) (by omega) ?_) | (refine stoF ?_ (.there (.here _)) ?_; (focus (first | omega | (simp <;> omega))))); conv => whnf)
                refine ⟨_, _, Turn.drop (.here _), _, by omega, c + 1, rfl, heap2 (rowsF_congr (rowStep (G := fun j => certGo (j : Int) L 0 0) hg)) rfl, rfl, by omega⟩
              · rw [certGo_one hin] at hg
                by_cases hq : 0 < k ∧ s ≠ o
                · refine cT (by simp [hq.1, hq.2]) ?_
                  rw [if_pos hq] at hg
                  conv => whnf
                  repeat ((first | refine ⟨gP_of ⟨by omega, by omega⟩, ?_⟩ | (refine ixo (i := c) (by omega) ?_) | (refine stoF ?_ (.there (.here _)) ?_; (focus (first | omega | (simp <;> omega))))); conv => whnf)
                  refine ⟨_, _, Turn.drop (.here _), _, by omega, c + 1, rfl, heap2 (rowsF_congr (rowStep (G := fun j => certGo (j : Int) L 0 0) hg)) rfl, rfl, by omega⟩
                · refine cF (by simp; omega) ?_
                  rw [if_neg hq] at hg
                  conv => whnf
                  repeat ((first | refine ⟨gP_of ⟨by omega, by omega⟩, ?_⟩ | (refine ix0 rfl ?_) | (refine ixo (i := c) (by omega) ?_) | (refine stoF ?_ (.there (.here _)) ?_; (focus (first | omega | (simp <;> omega))))); conv => whnf)
                  refine ⟨_, _, Turn.drop (.here _), _, by omega, k + 1, s, rfl, heap2 (rowsF_congr rowStep2) rfl, rfl, by omega, hg⟩
              · rw [certGo_bad (by rw [hin]; omega)] at hg
                refine cT (by simp; omega) ?_
                conv => whnf
                repeat ((first | refine ⟨gP_of ⟨by omega, by omega⟩, ?_⟩ | (refine ixo (i := c) (by omega) ?_) | (refine stoF ?_ (.there (.here _)) ?_; (focus (first | omega | (simp <;> omega))))); conv => whnf)
                refine ⟨_, _, Turn.drop (.here _), _, by omega, c + 1, rfl, heap2 (rowsF_congr (rowStep (G := fun j => certGo (j : Int) L 0 0) hg)) rfl, rfl, by omega⟩
        · rw [drop_nil (by omega), certGo] at hg
          conv => whnf
          repeat (refine ⟨gP_of ⟨by omega, by omega⟩, ?_⟩; conv => whnf)
          exact ⟨_, _, Turn.refl _ _, _, by omega, c + 1, rfl, heap2 (rowsF_congr (rowEnd (G := fun j => certGo (j : Int) L 0 0) hg)) rfl, rfl, by omega⟩
    · conv => whnf
      skip
      have hce : c = cells.length := by omega
      subst hce
      refine .inr ⟨rb, rfl, [(ab, Ob.vec [AV.sl 4 none (L.map encRst)])], ?_, rfl⟩
      rw [rowsF_congr (g := fun j => AV.int .i64 (certGo (j : Int) L 0 0)) fun j hj => if_pos hj]
end Go.Abs.Wall
set_option maxRecDepth 100000
set_option linter.unusedVariables false
namespace Go.Abs.Wall
open Go Go.Abs Go.Proofs Go.Proofs.Ytbgnfchlelhbeaa.Br
theorem heap1 {a : Nat} {x x' : List AV} (hx : x = x') : [(a, Ob.vec x)] = [(a, Ob.vec x')] := by subst hx; rfl
theorem inCell_mem {c : Int} : ∀ {xs ss : List Int} {s : Int}, s ∈ inCell c xs ss → s ∈ ss
  | x :: xs, t :: ss, s, h => by
    rw [inCell] at h
    split at h
    · rcases List.mem_cons.1 h with rfl | h
      · simp
      · exact List.mem_cons_of_mem _ (inCell_mem h)
    · exact List.mem_cons_of_mem _ (inCell_mem h)
  | [], ss, s, h => by cases ss <;> simp [inCell] at h
  | _ :: _, [], s, h => by simp [inCell] at h
def c39 : Cfg := ⟨[0, 1, 2, 3, 6, 7, 8, 9, 10, 11, 12, 13, 14, 15, 16, 22, 45, 49, 56, 61, 71, 83, 107, 113], [], [], [], [(6, [0, 1, 2, 3, 4, 5, 6, 7, 8, 9, 10, 11, 12, 13, 14, 15], [])], []⟩
theorem refCertain (F : Nat) (hF : 1000 ≤ F) (hF2 : F ≤ 19900) (l : Lst) (cells : List Cel) (line par : List Int) (hl : LstFit l) (hc : CelsFit cells) (hn : par.length ≤ LMAX) (hh : heavy l cells line = false) :
    QCall Try.prog 39 [.agg (encLst l), .sl 3 none (cells.map encCel), .sl 1 none (ints par)] [] (encIE (certR l cells par)) := by
  unfold certR
  refine GIV.ok (N := cells.length) (F := fun c => certGo (c : Int) (bestL (allR l cells par)) 0 0) ?_
  refine fcalls (F := Try.f39) c39 rfl rfl rfl mixed rfl fun X => ?_
  conv => whnf
  repeat (refine QCall.k0 (refCheck1 l cells par hl hc hn) ?_; conv => whnf)
  refine ⟨fun hd => ?_, fun hd => ?_⟩ <;> simp at hd
  · rw [if_pos hd]
    conv => whnf
    skip
    exact .inl (nilTup (by decide))
  rw [if_neg (by simpa using hd)]
  obtain ⟨h1, h2⟩ := check1_ok hd hc
  obtain ⟨h4, h5⟩ := check1_iff.1 hd
  have hls := lst_ok (check_lst h4)
  have hcl := h1.len
  have hfr := firstRW F hF hF2 (most := 65) h1 hls hh (check_right h4) (line_ok h5).1 (by omega) (by omega)
  obtain ⟨x0, A, B, hO, hb, hA, hB, hAB, hev⟩ := all_split hd
  rw [show ((65 : Int).toNat) = 65 from rfl, show ((allLines l.signs.length cells par).take 65).map (restored cells par) = x0 :: (A ++ B) from hO] at hfr
  rw [hb]
  obtain ⟨L, hL⟩ : ∃ L, L = x0 :: A := ⟨_, rfl⟩
  have hOL : x0 :: (A ++ B) = L ++ B := by rw [hL]; rfl
  rw [hOL] at hfr hev
  have hL0 : 0 < L.length := by rw [hL]; simp
  have hx00 : (L ++ B)[0]? = some x0 := by rw [hL]; rfl
  have hchA : ∀ x ∈ L, x.changes = x0.changes := fun x hx => by
    rw [hL] at hx
    rcases List.mem_cons.1 hx with rfl | hx
    · rfl
    · exact hA x hx
  have hLl : (L ++ B).length ≤ 1001 := by rw [hL]; simp at hAB ⊢; omega
  rw [← hL]
  have hlen : (L ++ B).length = L.length + B.length := List.length_append
  have eml : ((L ++ B).map encRst).length = L.length + B.length := by rw [List.length_map, hlen]
  clear hb hO hA hL hOL
  conv => whnf
  rw [List.length_map]
  repeat (refine QCall.k0 (hfr) ?_; conv => whnf)
  refine sloop rfl mixed [1, 9, 10] [] (fun m r h => ∃ (b : Nat), r = [(1, [], .sl 3 none (cells.map encCel)), (9, [], .sl 4 none ((L ++ B).map encRst)), (10, [], .int .i64 b)] ∧ h = [] ∧ m = L.length - b ∧ b ≤ L.length) ?_ ?_
  · conv => whnf
    exact ⟨_, 0, rfl, rfl, rfl, by omega⟩
  · rintro m r h ⟨b, rfl, rfl, rfl, hb⟩
    rcases Nat.lt_or_ge b L.length with hb1 | hb1
    · obtain ⟨x, hxL⟩ := get_lt hb1
      have hx : (L ++ B)[b]? = some x := by rw [List.getElem?_append_left hb1]; exact hxL
      have hch := hchA x (List.mem_of_getElem? hxL)
      conv => whnf
      repeat ((first | refine ix (by assumption) ?_ | refine And.intro (by show drawOK (opsAt Try.f39 _) _ = true; decide +kernel) ?_); conv => whnf)
      refine cT (by simp [hch]; omega) ?_
      conv => whnf
      repeat (refine ⟨gP_of ⟨by omega, by omega⟩, ?_⟩; conv => whnf)
      exact ⟨_, by omega, b + 1, rfl, rfl, rfl, by omega⟩
    obtain rfl : b = L.length := by omega
    have hdone : ∀ {C : Prop}, C → C := fun h => h
    rcases Nat.eq_zero_or_pos B.length with hB0 | hB0
    · conv => whnf
      repeat ((first | refine ix (by assumption) ?_ | (refine ixg x0 (by intro g1; have g2 : (L.length : Int) < ((L ++ B).map encRst).length := (by simpa using g1); exfalso; omega) ?_)
                     | refine And.intro (by show drawOK (opsAt Try.f39 _) _ = true; decide +kernel) ?_); conv => whnf)
      refine cF (by simp; omega) ?_
      conv => whnf
      skip
      refine ⟨fun hg => ?_, fun hg => ?_⟩ <;> simp at hg
      · rw [if_pos (by omega)]
        conv => whnf
        skip
        exact .inl (nilTup (by decide))
      rw [if_neg (by omega)]
      conv => whnf
      skip
      refine ⟨⟨rfl, by omega, by rw [List.length_map]; omega⟩, ?_⟩
      intro rb
      conv => whnf
      rw [List.length_map, Int.toNat_natCast, repC_F]
      skip
      refine sloop rfl mixed [1, 9, 10, 11, 12] [] (fun m r h => ∃ (c : Nat), r = [(1, [], .sl 3 none (cells.map encCel)), (9, [], .sl 4 none ((L ++ B).map encRst)), (10, [], .int .i64 L.length), (11, [], .osl rb 0 cells.length 1), (12, [], .int .i64 c)] ∧ h = [(rb, .vec (rowsF cells.length fun j => if j < c then .int .i64 (certGo (j : Int) L 0 0) else .int .i64 0))] ∧ m = cells.length - c ∧ c ≤ cells.length) ?_ ?_
      · conv => whnf
        exact ⟨_, 0, rfl, heap1 (rowsF_congr fun j hj => by simp), rfl, by omega⟩
      · rintro m r h ⟨c, rfl, rfl, rfl, hc⟩
        conv => whnf
        refine ⟨fun hf => ?_, fun hf => ?_⟩ <;> simp at hf
        · conv => whnf
          skip
          refine sloop rfl mixed [1, 9, 10, 11, 12, 13] [] (fun m r h => ∃ (k : Nat) (o : Int), r = [(1, [], .sl 3 none (cells.map encCel)), (9, [], .sl 4 none ((L ++ B).map encRst)), (10, [], .int .i64 L.length), (11, [], .osl rb 0 cells.length 1), (12, [], .int .i64 c), (13, [], .int .i64 k)] ∧ h = [(rb, .vec (rowsF cells.length fun j => if j < c then .int .i64 (certGo (j : Int) L 0 0) else if j = c then .int .i64 o else .int .i64 0))] ∧ m = L.length - k ∧ k ≤ L.length ∧ certGo c L 0 0 = certGo c (L.drop k) k o) ?_ ?_
          · conv => whnf
            refine ⟨_, 0, 0, rfl, heap1 (rowsF_congr fun j hj => ?_), rfl, by omega, rfl⟩
            by_cases hjc : j < c <;> simp [hjc]
          · rintro m r h ⟨k, o, rfl, rfl, rfl, hk, hg⟩
            conv => whnf
            refine ⟨fun hf2 => ?_, fun hf2 => ?_⟩ <;> simp at hf2
            · obtain ⟨x, hxL⟩ := get_lt hf2
              have hx : (L ++ B)[k]? = some x := by rw [List.getElem?_append_left hf2]; exact hxL
              obtain ⟨e1, e2, e3⟩ := hev x (List.mem_append_left _ (List.mem_of_getElem? hxL))
              rw [drop_cons hxL] at hg
              conv => whnf
              skip
              refine sloop rfl mixed [1, 9, 10, 11, 12, 13, 14, 15, 16] [] (fun m r h => ∃ (i : Nat) (hs : List Int), r = [(1, [], .sl 3 none (cells.map encCel)), (9, [], .sl 4 none ((L ++ B).map encRst)), (10, [], .int .i64 L.length), (11, [], .osl rb 0 cells.length 1), (12, [], .int .i64 c), (13, [], .int .i64 k), (14, [], .int .i64 (hs.getLastD (-1))), (15, [], .int .i64 hs.length), (16, [], .int .i64 i)] ∧ h = [(rb, .vec (rowsF cells.length fun j => if j < c then .int .i64 (certGo (j : Int) L 0 0) else if j = c then .int .i64 o else .int .i64 0))] ∧ m = x.cells.length - i ∧ i ≤ x.cells.length ∧ hs.length ≤ i ∧ inCell c x.cells x.signs = hs ++ inCell c (x.cells.drop i) (x.signs.drop i)) ?_ ?_
              · conv => whnf
                exact ⟨_, 0, [], rfl, rfl, rfl, by omega, by simp, rfl⟩
              · rintro m r h ⟨i, hs, rfl, rfl, rfl, hi, hhs, hin⟩
                conv => whnf
                repeat (refine ix (by assumption) ?_; conv => whnf)
                refine ⟨fun hf3 => ?_, fun hf3 => ?_⟩ <;> simp at hf3
                · obtain ⟨y, hy⟩ := get_lt (l := x.cells) (i := i) (by omega)
                  obtain ⟨s, hs'⟩ := get_lt (l := x.signs) (i := i) (by omega)
                  rw [inCell_drop hy hs'] at hin
                  conv => whnf
                  repeat (refine ix (by assumption) ?_; conv => whnf)
                  refine ⟨fun hq => ?_, fun hq => ?_⟩ <;> simp at hq
                  · rw [if_pos hq] at hin
                    conv => whnf
                    repeat ((first | refine ⟨gP_of ⟨by omega, by omega⟩, ?_⟩ | refine ix (by assumption) ?_); conv => whnf)
                    exact ⟨_, by omega, i + 1, hs ++ [s], by simp, rfl, rfl, by omega, by simp; omega, by rw [hin]; simp⟩
                  · rw [if_neg hq] at hin
                    conv => whnf
                    repeat (refine ⟨gP_of ⟨by omega, by omega⟩, ?_⟩; conv => whnf)
                    exact ⟨_, by omega, i + 1, hs, rfl, rfl, rfl, by omega, by omega, hin⟩
                · rw [inCell_end (by omega), List.append_nil] at hin
                  have hcc : c < cells.length := by omega
                  conv => whnf
                  repeat ((first | (refine ixog (by intro g1 g2; show (0 : Int) ≤ _ ∧ _ < _; omega) ?_) | (refine ldoF (.int .i64 o) (.head _) rfl ?_ ?_ ?_; (focus (first | omega | (simp <;> omega))); (focus (simp <;> (first | omega | (intro hq; omega)))))); conv => whnf)
                  rcases has_cases (L := hs) with rfl | ⟨s, rfl⟩ | h2
                  · rw [certGo_bad (by rw [hin]; simp)] at hg
                    refine cT (by simp) ?_
                    conv => whnf
                    repeat ((first | (refine ixo (i := c) (by omega) ?_) | (refine stoF ?_ (.here _) ?_; (focus (first | omega | (simp <;> omega))))); conv => whnf)
                    refine cT (by simp) ?_
                    conv => whnf
                    repeat (refine ⟨gP_of ⟨by omega, by omega⟩, ?_⟩; conv => whnf)
                    refine ⟨_, by omega, c + 1, rfl, heap1 (rowsF_congr (rowStep (G := fun j => certGo (j : Int) L 0 0) hg)), rfl, by omega⟩
                  · rw [certGo_one hin] at hg
                    by_cases hq : 0 < k ∧ s ≠ o
                    · refine cT (by simp [hq.1]; intro h; exact hq.2 h.symm) ?_
                      rw [if_pos hq] at hg
                      conv => whnf
                      repeat ((first | (refine ixo (i := c) (by omega) ?_) | (refine stoF ?_ (.here _) ?_; (focus (first | omega | (simp <;> omega))))); conv => whnf)
                      refine cT (by simp) ?_
                      conv => whnf
                      repeat (refine ⟨gP_of ⟨by omega, by omega⟩, ?_⟩; conv => whnf)
                      refine ⟨_, by omega, c + 1, rfl, heap1 (rowsF_congr (rowStep (G := fun j => certGo (j : Int) L 0 0) hg)), rfl, by omega⟩
                    · refine cF (by simp; omega) ?_
                      rw [if_neg hq] at hg
                      conv => whnf
                      repeat ((first | (refine ixo (i := c) (by omega) ?_) | (refine stoF ?_ (.here _) ?_; (focus (first | omega | (simp <;> omega))))); conv => whnf)
                      have hsn : 0 ≤ s := e3 s (inCell_mem (by rw [hin]; simp))
                      refine cF (by simp; omega) ?_
                      conv => whnf
                      repeat (refine ⟨gP_of ⟨by omega, by omega⟩, ?_⟩; conv => whnf)
                      refine ⟨_, by omega, k + 1, [s].getLastD (-1), rfl, heap1 (rowsF_congr rowStep2), rfl, by omega, hg⟩
                  · rw [certGo_bad (by rw [hin]; omega)] at hg
                    refine cT (by simp; omega) ?_
                    conv => whnf
                    repeat ((first | (refine ixo (i := c) (by omega) ?_) | (refine stoF ?_ (.here _) ?_; (focus (first | omega | (simp <;> omega))))); conv => whnf)
                    refine cT (by simp) ?_
                    conv => whnf
                    repeat (refine ⟨gP_of ⟨by omega, by omega⟩, ?_⟩; conv => whnf)
                    refine ⟨_, by omega, c + 1, rfl, heap1 (rowsF_congr (rowStep (G := fun j => certGo (j : Int) L 0 0) hg)), rfl, by omega⟩
            · rw [drop_nil (by omega), certGo] at hg
              conv => whnf
              repeat (refine ⟨gP_of ⟨by omega, by omega⟩, ?_⟩; conv => whnf)
              exact ⟨_, by omega, c + 1, rfl, heap1 (rowsF_congr (rowEnd (G := fun j => certGo (j : Int) L 0 0) hg)), rfl, by omega⟩
        · conv => whnf
          skip
          have hce : c = cells.length := by omega
          subst hce
          refine .inr ⟨rb, rfl, [], ?_, rfl⟩
          rw [rowsF_congr (g := fun j => AV.int .i64 (certGo (j : Int) L 0 0)) fun j hj => if_pos hj]
    · obtain ⟨x, hxB⟩ := get_lt hB0
      have hx : (L ++ B)[L.length]? = some x := by rw [List.getElem?_append_right (Nat.le_refl _), Nat.sub_self]; exact hxB
      have hch := hB x (List.mem_of_getElem? hxB)
      conv => whnf
      repeat ((first | refine ix (by assumption) ?_ | refine And.intro (by show drawOK (opsAt Try.f39 _) _ = true; decide +kernel) ?_); conv => whnf)
      refine cF (by simp; omega) ?_
      conv => whnf
      skip
      refine ⟨fun hg => ?_, fun hg => ?_⟩ <;> simp at hg
      · rw [if_pos (by omega)]
        conv => whnf
        skip
        exact .inl (nilTup (by decide))
      rw [if_neg (by omega)]
      conv => whnf
      skip
      refine ⟨⟨rfl, by omega, by rw [List.length_map]; omega⟩, ?_⟩
      intro rb
      conv => whnf
      rw [List.length_map, Int.toNat_natCast, repC_F]
      skip
      refine sloop rfl mixed [1, 9, 10, 11, 12] [] (fun m r h => ∃ (c : Nat), r = [(1, [], .sl 3 none (cells.map encCel)), (9, [], .sl 4 none ((L ++ B).map encRst)), (10, [], .int .i64 L.length), (11, [], .osl rb 0 cells.length 1), (12, [], .int .i64 c)] ∧ h = [(rb, .vec (rowsF cells.length fun j => if j < c then .int .i64 (certGo (j : Int) L 0 0) else .int .i64 0))] ∧ m = cells.length - c ∧ c ≤ cells.length) ?_ ?_
      · conv => whnf
        exact ⟨_, 0, rfl, heap1 (rowsF_congr fun j hj => by simp), rfl, by omega⟩
      · rintro m r h ⟨c, rfl, rfl, rfl, hc⟩
        conv => whnf
        refine ⟨fun hf => ?_, fun hf => ?_⟩ <;> simp at hf
        · conv => whnf
          skip
          refine sloop rfl mixed [1, 9, 10, 11, 12, 13] [] (fun m r h => ∃ (k : Nat) (o : Int), r = [(1, [], .sl 3 none (cells.map encCel)), (9, [], .sl 4 none ((L ++ B).map encRst)), (10, [], .int .i64 L.length), (11, [], .osl rb 0 cells.length 1), (12, [], .int .i64 c), (13, [], .int .i64 k)] ∧ h = [(rb, .vec (rowsF cells.length fun j => if j < c then .int .i64 (certGo (j : Int) L 0 0) else if j = c then .int .i64 o else .int .i64 0))] ∧ m = L.length - k ∧ k ≤ L.length ∧ certGo c L 0 0 = certGo c (L.drop k) k o) ?_ ?_
          · conv => whnf
            refine ⟨_, 0, 0, rfl, heap1 (rowsF_congr fun j hj => ?_), rfl, by omega, rfl⟩
            by_cases hjc : j < c <;> simp [hjc]
          · rintro m r h ⟨k, o, rfl, rfl, rfl, hk, hg⟩
            conv => whnf
            refine ⟨fun hf2 => ?_, fun hf2 => ?_⟩ <;> simp at hf2
            · obtain ⟨x, hxL⟩ := get_lt hf2
              have hx : (L ++ B)[k]? = some x := by rw [List.getElem?_append_left hf2]; exact hxL
              obtain ⟨e1, e2, e3⟩ := hev x (List.mem_append_left _ (List.mem_of_getElem? hxL))
              rw [drop_cons hxL] at hg
              conv => whnf
              skip
              refine sloop rfl mixed [1, 9, 10, 11, 12, 13, 14, 15, 16] [] (fun m r h => ∃ (i : Nat) (hs : List Int), r = [(1, [], .sl 3 none (cells.map encCel)), (9, [], .sl 4 none ((L ++ B).map encRst)), (10, [], .int .i64 L.length), (11, [], .osl rb 0 cells.length 1), (12, [], .int .i64 c), (13, [], .int .i64 k), (14, [], .int .i64 (hs.getLastD (-1))), (15, [], .int .i64 hs.length), (16, [], .int .i64 i)] ∧ h = [(rb, .vec (rowsF cells.length fun j => if j < c then .int .i64 (certGo (j : Int) L 0 0) else if j = c then .int .i64 o else .int .i64 0))] ∧ m = x.cells.length - i ∧ i ≤ x.cells.length ∧ hs.length ≤ i ∧ inCell c x.cells x.signs = hs ++ inCell c (x.cells.drop i) (x.signs.drop i)) ?_ ?_
              · conv => whnf
                exact ⟨_, 0, [], rfl, rfl, rfl, by omega, by simp, rfl⟩
              · rintro m r h ⟨i, hs, rfl, rfl, rfl, hi, hhs, hin⟩
                conv => whnf
                repeat (refine ix (by assumption) ?_; conv => whnf)
                refine ⟨fun hf3 => ?_, fun hf3 => ?_⟩ <;> simp at hf3
                · obtain ⟨y, hy⟩ := get_lt (l := x.cells) (i := i) (by omega)
                  obtain ⟨s, hs'⟩ := get_lt (l := x.signs) (i := i) (by omega)
                  rw [inCell_drop hy hs'] at hin
                  conv => whnf
                  repeat (refine ix (by assumption) ?_; conv => whnf)
                  refine ⟨fun hq => ?_, fun hq => ?_⟩ <;> simp at hq
                  · rw [if_pos hq] at hin
                    conv => whnf
                    repeat ((first | refine ⟨gP_of ⟨by omega, by omega⟩, ?_⟩ | refine ix (by assumption) ?_); conv => whnf)
                    exact ⟨_, by omega, i + 1, hs ++ [s], by simp, rfl, rfl, by omega, by simp; omega, by rw [hin]; simp⟩
                  · rw [if_neg hq] at hin
                    conv => whnf
                    repeat (refine ⟨gP_of ⟨by omega, by omega⟩, ?_⟩; conv => whnf)
                    exact ⟨_, by omega, i + 1, hs, rfl, rfl, rfl, by omega, by omega, hin⟩
                · rw [inCell_end (by omega), List.append_nil] at hin
                  have hcc : c < cells.length := by omega
                  conv => whnf
                  repeat ((first | (refine ixog (by intro g1 g2; show (0 : Int) ≤ _ ∧ _ < _; omega) ?_) | (refine ldoF (.int .i64 o) (.head _) rfl ?_ ?_ ?_; (focus (first | omega | (simp <;> omega))); (focus (simp <;> (first | omega | (intro hq; omega)))))); conv => whnf)
                  rcases has_cases (L := hs) with rfl | ⟨s, rfl⟩ | h2
                  · rw [certGo_bad (by rw [hin]; simp)] at hg
                    refine cT (by simp) ?_
                    conv => whnf
                    repeat ((first | (refine ixo (i := c) (by omega) ?_) | (refine stoF ?_ (.here _) ?_; (focus (first | omega | (simp <;> omega))))); conv => whnf)
                    refine cT (by simp) ?_
                    conv => whnf
                    repeat (refine ⟨gP_of ⟨by omega, by omega⟩, ?_⟩; conv => whnf)
                    refine ⟨_, by omega, c + 1, rfl, heap1 (rowsF_congr (rowStep (G := fun j => certGo (j : Int) L 0 0) hg)), rfl, by omega⟩
                  · rw [certGo_one hin] at hg
                    by_cases hq : 0 < k ∧ s ≠ o
                    · refine cT (by simp [hq.1]; intro h; exact hq.2 h.symm) ?_
                      rw [if_pos hq] at hg
                      conv => whnf
                      repeat ((first | (refine ixo (i := c) (by omega) ?_) | (refine stoF ?_ (.here _) ?_; (focus (first | omega | (simp <;> omega))))); conv => whnf)
                      refine cT (by simp) ?_
                      conv => whnf
                      repeat (refine ⟨gP_of ⟨by omega, by omega⟩, ?_⟩; conv => whnf)
                      refine ⟨_, by omega, c + 1, rfl, heap1 (rowsF_congr (rowStep (G := fun j => certGo (j : Int) L 0 0) hg)), rfl, by omega⟩
                    · refine cF (by simp; omega) ?_
                      rw [if_neg hq] at hg
                      conv => whnf
                      repeat ((first | (refine ixo (i := c) (by omega) ?_) | (refine stoF ?_ (.here _) ?_; (focus (first | omega | (simp <;> omega))))); conv => whnf)
                      have hsn : 0 ≤ s := e3 s (inCell_mem (by rw [hin]; simp))
                      refine cF (by simp; omega) ?_
                      conv => whnf
                      repeat (refine ⟨gP_of ⟨by omega, by omega⟩, ?_⟩; conv => whnf)
                      refine ⟨_, by omega, k + 1, [s].getLastD (-1), rfl, heap1 (rowsF_congr rowStep2), rfl, by omega, hg⟩
                  · rw [certGo_bad (by rw [hin]; omega)] at hg
                    refine cT (by simp; omega) ?_
                    conv => whnf
                    repeat ((first | (refine ixo (i := c) (by omega) ?_) | (refine stoF ?_ (.here _) ?_; (focus (first | omega | (simp <;> omega))))); conv => whnf)
                    refine cT (by simp) ?_
                    conv => whnf
                    repeat (refine ⟨gP_of ⟨by omega, by omega⟩, ?_⟩; conv => whnf)
                    refine ⟨_, by omega, c + 1, rfl, heap1 (rowsF_congr (rowStep (G := fun j => certGo (j : Int) L 0 0) hg)), rfl, by omega⟩
            · rw [drop_nil (by omega), certGo] at hg
              conv => whnf
              repeat (refine ⟨gP_of ⟨by omega, by omega⟩, ?_⟩; conv => whnf)
              exact ⟨_, by omega, c + 1, rfl, heap1 (rowsF_congr (rowEnd (G := fun j => certGo (j : Int) L 0 0) hg)), rfl, by omega⟩
        · conv => whnf
          skip
          have hce : c = cells.length := by omega
          subst hce
          refine .inr ⟨rb, rfl, [], ?_, rfl⟩
          rw [rowsF_congr (g := fun j => AV.int .i64 (certGo (j : Int) L 0 0)) fun j hj => if_pos hj]
end Go.Abs.Wall
set_option maxRecDepth 100000
set_option linter.unusedVariables false
namespace Go.Abs.Wall
open Go Go.Abs Go.Proofs Go.Proofs.Ytbgnfchlelhbeaa.Br
def c13 : Cfg := ⟨[0, 1, 2, 3, 6, 7, 8, 9, 10, 14], [], [], [], [], []⟩
theorem lawKnows' (F : Nat) (hF : 1000 ≤ F) (hF2 : F ≤ 19900) (l : Lst) (cells : List Cel) (par : List Int) (hl : LstFit l) (hc : CelsFit cells) (hp : par.length ≤ LMAX) :
    QCall Try.prog 13 [.agg (encLst l), .sl 3 none (cells.map encCel), .sl 1 none (ints par)] [] (.bool true) := by
  refine QCall.of' ?_
  refine fcalls (F := Try.f13) c13 rfl rfl rfl mixed rfl fun X => ?_
  conv => whnf
  repeat (refine QCall.k0 (heavyW l cells par hl hc hp) ?_; conv => whnf)
  refine ⟨fun hd => ?_, fun hd => ?_⟩
  · conv => whnf
    repeat (refine QCall.k0 (works) ?_; conv => whnf)
  have hw := wallCertain l cells par hl hc hp
  have hr := refCertain F hF hF2 l cells par par hl hc hp hd
  have hcn : cells.length ≤ 1048576 := hc.len
  have hlen : (certR l cells par).1.length ≤ LMAX := by
    unfold certR LMAX
    split
    · simp
    · split
      · simp
      · simp; omega
  obtain ⟨Z, hZ⟩ : ∃ Z, Z = certR l cells par := ⟨_, rfl⟩
  rw [← hZ] at hw hr hlen
  conv => whnf
  repeat ((first | refine QCall.k0 (hw) ?_ | refine QCall.k0 (hr) ?_ | refine gcall (sameInts Z.1 Z.1 hlen hlen) ?_ | refine gcall (works) ?_); conv => whnf)
  exact congrArg AV.bool (by simp)
theorem lawKnows (l : Lst) (cells : List Cel) (par : List Int) (hl : LstFit l) (hc : CelsFit cells) (hp : par.length ≤ LMAX) :
    QCall Try.prog 13 [.agg (encLst l), .sl 3 none (cells.map encCel), .sl 1 none (ints par)] [] (.bool true) := lawKnows' 2000 (by decide) (by decide) l cells par hl hc hp
end Go.Abs.Wall

