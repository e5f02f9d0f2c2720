/- What is proved: small laws for the walks of this seat, and contracts of its functions. No condition but those each theorem names. -/
import Derived.Test.YthkokengobdgcaaGreatN25
import Derived.Test.YthkokengobdgcaaGreatN4
import Derived.Test.YthkokengobdgcaaGreatN29
set_option maxRecDepth 100000
set_option maxHeartbeats 2000000
set_option linter.unusedVariables false
set_option linter.unusedSimpArgs false
namespace Go.Abs.Wall.Lst
open Go Go.Abs Go.Proofs Go.Abs.Wall
/-! ### the entries of which a word is in a reading -/
def toF (g : List (List Lnk)) (a j : Nat) : Bool := decide (a ≤ j) && toV g j
def toK (g : List (List Lnk)) (at_ : Nat) (es : List Lnk) (k j : Nat) : Bool := if j = at_ then (es.take k).any fun x => toV g x.to.toNat else toF g (at_ + 1) j
/-- words of the entry in a reading, from a place on -/
def UsedFrom (g : List (List Lnk)) (a : Nat) (e : Int) : Prop := ∃ (i : Nat) (es : List Lnk) (x : Lnk), a ≤ i ∧ g[i]? = some es ∧ x ∈ es ∧ x.entry = e ∧ fromV g i = true ∧ toV g x.to.toNat = true
def UsedAt (g : List (List Lnk)) (a : Nat) (es : List Lnk) (k : Nat) (e : Int) : Prop := ∃ x ∈ es.take k, x.entry = e ∧ fromV g a = true ∧ toV g x.to.toNat = true
def Seen (es : List (Int × Int)) (p : Int → Prop) : Prop := ∀ e, (lookA e es).getD 0 = 1 ↔ p e
theorem Seen.set {es : List (Int × Int)} {p q : Int → Prop} {x : Int} (h : Seen es p) (hq : ∀ e, q e ↔ p e ∨ e = x) : Seen (setA x 1 es) q := by
  intro e
  rw [lookSet, hq]
  by_cases he : e = x
  · rw [if_pos he]; simp [he]
  · rw [if_neg he, h e]; simp [he]
theorem usedG_from {g : List (List Lnk)} {e : Int} : usedG e g = true ↔ UsedFrom g 0 e := by
  unfold usedG UsedFrom
  rw [List.any_eq_true]
  constructor
  · rintro ⟨i, hi, h⟩
    rw [List.mem_range] at hi
    obtain ⟨es, hes⟩ := get_lt hi
    rw [Bool.and_eq_true, getD_of hes, List.any_eq_true] at h
    obtain ⟨h1, x, hx, h2⟩ := h
    rw [Bool.and_eq_true, decide_eq_true_eq] at h2
    exact ⟨i, es, x, Nat.zero_le _, hes, hx, h2.2, h1, h2.1⟩
  · rintro ⟨i, es, x, _, hes, hx, he, h1, h2⟩
    refine ⟨i, List.mem_range.2 (List.getElem?_eq_some_iff.1 hes).1, ?_⟩
    rw [Bool.and_eq_true, getD_of hes, List.any_eq_true]
    exact ⟨h1, x, hx, by rw [Bool.and_eq_true, decide_eq_true_eq]; exact ⟨h2, he⟩⟩
theorem usedFrom_step {g : List (List Lnk)} {a : Nat} {es : List Lnk} (h : g[a]? = some es) (e : Int) : UsedFrom g a e ↔ UsedFrom g (a + 1) e ∨ UsedAt g a es es.length e := by
  unfold UsedFrom UsedAt
  rw [List.take_length]
  constructor
  · rintro ⟨i, fs, x, h1, h2, h3, h4, h5, h6⟩
    by_cases hi : a + 1 ≤ i
    · exact .inl ⟨i, fs, x, hi, h2, h3, h4, h5, h6⟩
    · have : i = a := by omega
      subst this
      rw [h] at h2
      cases h2
      exact .inr ⟨x, h3, h4, h5, h6⟩
  · rintro (⟨i, fs, x, h1, h2, h3, h4, h5, h6⟩ | ⟨x, h3, h4, h5, h6⟩)
    · exact ⟨i, fs, x, by omega, h2, h3, h4, h5, h6⟩
    · exact ⟨a, es, x, Nat.le_refl _, h, h3, h4, h5, h6⟩
theorem usedAt_step {g : List (List Lnk)} {a : Nat} {es : List Lnk} {k : Nat} {x : Lnk} (h : es[k]? = some x) (e : Int) : UsedAt g a es (k + 1) e ↔ UsedAt g a es k e ∨ (e = x.entry ∧ fromV g a = true ∧ toV g x.to.toNat = true) := by
  unfold UsedAt
  rw [take_snoc h]
  constructor
  · rintro ⟨y, hy, h1, h2, h3⟩
    rcases List.mem_append.1 hy with hy | hy
    · exact .inl ⟨y, hy, h1, h2, h3⟩
    · rw [List.mem_singleton] at hy
      subst hy
      exact .inr ⟨h1.symm, h2, h3⟩
  · rintro (⟨y, hy, h1, h2, h3⟩ | ⟨h1, h2, h3⟩)
    · exact ⟨y, List.mem_append_left _ hy, h1, h2, h3⟩
    · exact ⟨x, List.mem_append_right _ (List.mem_singleton.2 rfl), h1.symm, h2, h3⟩
theorem set_self {α : Type} {l : List α} {k : Nat} {v : α} (h : l[k]? = some v) : l.set k v = l := by
  refine List.ext_getElem? fun j => ?_
  rw [List.getElem?_set]
  by_cases e : k = j
  · subst e
    rw [if_pos rfl, h]
    have := (List.getElem?_eq_some_iff.1 h).1
    rw [if_pos this]
  · rw [if_neg e]
theorem gdSetV {l : List Bool} {i j : Nat} {v : Bool} (hi : i < l.length) : (l.set i v).getD j false = if i = j then v else l.getD j false := by
  rw [List.getD_eq_getElem?_getD, List.getD_eq_getElem?_getD, List.getElem?_set]
  by_cases e : i = j
  · subst e
    rw [if_pos rfl, if_pos rfl, if_pos hi]
    rfl
  · rw [if_neg e, if_neg e]
theorem Seen.congr {es : List (Int × Int)} {p q : Int → Prop} (h : Seen es p) (hq : ∀ e, q e ↔ p e) : Seen es q := fun e => (h e).trans (hq e).symm
def c106 : Cfg := ⟨[0, 2, 3, 5, 6, 7, 8, 9, 10, 12, 13, 15, 17, 18, 19, 20, 36, 37, 38, 39, 43, 44, 45, 46, 69, 75, 76, 77, 78, 105], [], [12, 15], [], [(15, [0, 1, 2, 3, 4, 5, 6, 7, 8, 9, 10, 11, 12, 13, 14, 15], [])], []⟩
theorem usedA {C : Cor} (hg : ∀ g ∈ C, GFit g) (hC : C.length ≤ 1048576) :
    ACalls Tryz.prog 106 [encCor C] [] (fun v h' => ∃ mb es, v = .omap mb ∧ h' = [(mb, mapI es)] ∧ Seen es fun e => usedB C e = true) := by
  refine fcalls (F := Tryz.f106) c106 rfl rfl rfl mixed rfl fun X => ?_
  conv => whnf
  intro mb
  conv => whnf
  skip
  refine tloop rfl mixed [3, 17, 18, 19] [] (fun m r h => ∃ (i : Nat) (es : List (Int × Int)), r = [(3, [], .omap mb), (17, [], encCor C), (18, [], .int .i64 (C.map encGr).length), (19, [], .int .i64 i)] ∧ h = [(mb, mapI es)] ∧ m = C.length - i ∧ i ≤ C.length ∧ Seen es fun e => ((C.take i).any (usedG e)) = true) ?_ ?_
  · conv => whnf
    exact ⟨_, _, Turn.refl _ _, _, 0, [], rfl, rfl, rfl, by omega, fun e => by simp [lookA]⟩
  · rintro m r h' ⟨i, es, rfl, rfl, rfl, hi, hse⟩
    conv => whnf
    refine ⟨fun hi2 => ?_, fun hi2 => ?_⟩ <;> simp at hi2
    · obtain ⟨g, hgi⟩ := get_lt hi2
      have hgf := hg g (List.mem_of_getElem? hgi)
      have hgo' := hgf.ok
      have hn := hgf.few
      have hnext : ∀ e, ((C.take (i + 1)).any (usedG e)) = true ↔ ((C.take i).any (usedG e)) = true ∨ UsedFrom g 0 e := by
        intro e
        rw [take_snoc hgi, List.any_append, Bool.or_eq_true, ← usedG_from]
        simp
      conv => whnf
      repeat ((first | refine ix (by assumption) ?_ | (refine ⟨gP_of ⟨by rw [List.length_map]; omega, by rw [List.length_map]; omega⟩, ?_⟩) | (refine ⟨⟨rfl, by rw [List.length_map]; omega, by rw [List.length_map]; omega⟩, fun b => ?_⟩)); conv => whnf)
      rename_i fb
      rw [boolRow0, show (((g.map encLnks).length : Int) + 1).toNat = g.length + 1 by rw [List.length_map]; omega]
      repeat ((first | (refine ixo (i := 0) (by omega) ?_) | (refine ⟨g.length, gP_of ⟨by rw [List.length_map], by omega⟩, ?_⟩) | (refine stE true (by decide) encB_len (i := 0) (by simp) (Nat.zero_add _) rfl (.there (.here _)) ?_)
                     | (refine stE true (by decide) encB_len (i := g.length) (by simp) (Nat.zero_add _) rfl (.here _) ?_)); conv => whnf)
      obtain ⟨l0, hl0⟩ : ∃ l, l = (List.replicate (g.length + 1) false).set 0 true := ⟨_, rfl⟩
      obtain ⟨t0, ht0⟩ : ∃ l, l = (List.replicate (g.length + 1) false).set g.length true := ⟨_, rfl⟩
      have hrm : rdL everyW g = rdGo everyW g 0 l0 := by rw [hl0]; rfl
      rw [← hl0, ← ht0]
      have hl0n : l0.length = g.length + 1 := by rw [hl0]; simp
      have ht0n : t0.length = g.length + 1 := by rw [ht0]; simp
      refine sloop rfl mixed [3, 5, 6, 7, 8, 17, 18, 19, 36, 37, 38] [] (fun m r h => ∃ (k : Nat) (l : List Bool), r = [(3, [], .omap mb), (5, [], .sl 1 none (g.map encLnks)), (6, [], .int .i64 (g.map encLnks).length), (7, [], .osl fb 0 (g.length + 1) 1), (8, [], .osl b 0 (g.length + 1) 1), (17, [], encCor C), (18, [], .int .i64 (C.map encGr).length), (19, [], .int .i64 i), (36, [], .sl 1 none (g.map encLnks)), (37, [], .int .i64 (g.map encLnks).length), (38, [], .int .i64 k)] ∧ h = [(b, .vec (t0.map encB).flatten), (fb, .vec (l.map encB).flatten), (mb, mapI es)] ∧ m = g.length - k ∧ k ≤ g.length ∧ l.length = g.length + 1 ∧ rdGo everyW g 0 l0 = rdGo everyW (g.drop k) k l) ?_ ?_
      · conv => whnf
        exact ⟨_, 0, l0, rfl, rfl, rfl, by omega, hl0n, rfl⟩
      · rintro m r hA ⟨k, l, rfl, rfl, rfl, hk, hl, hgo⟩
        conv => whnf
        refine ⟨fun hk2 => ?_, fun hk2 => ?_⟩ <;> simp at hk2
        · obtain ⟨ls, hls⟩ := get_lt hk2
          have hmany := hgf.row ls (List.mem_of_getElem? hls)
          rw [drop_cons hls, rdGo] at hgo
          conv => whnf
          repeat (refine ix (by assumption) ?_; conv => whnf)
          refine sloop rfl mixed [3, 5, 6, 7, 8, 9, 17, 18, 19, 36, 37, 38, 43, 44, 45] [] (fun m r h => ∃ (j : Nat) (l : List Bool), r = [(3, [], .omap mb), (5, [], .sl 1 none (g.map encLnks)), (6, [], .int .i64 (g.map encLnks).length), (7, [], .osl fb 0 (g.length + 1) 1), (8, [], .osl b 0 (g.length + 1) 1), (9, [], .int .i64 k), (17, [], encCor C), (18, [], .int .i64 (C.map encGr).length), (19, [], .int .i64 i), (36, [], .sl 1 none (g.map encLnks)), (37, [], .int .i64 (g.map encLnks).length), (38, [], .int .i64 k), (43, [], .sl 2 none (ls.map encLnk)), (44, [], .int .i64 (ls.map encLnk).length), (45, [], .int .i64 j)] ∧ h = [(b, .vec (t0.map encB).flatten), (fb, .vec (l.map encB).flatten), (mb, mapI es)] ∧ m = ls.length - j ∧ j ≤ ls.length ∧ l.length = g.length + 1 ∧ rdGo everyW g 0 l0 = rdGo everyW (g.drop (k + 1)) (k + 1) (mkL everyW k (ls.drop j) l)) ?_ ?_
          · conv => whnf
            exact ⟨_, 0, l, rfl, rfl, rfl, by omega, hl, hgo⟩
          · clear hgo hl
            rintro m r hB ⟨j, l, rfl, rfl, rfl, hj, hl, hgo⟩
            obtain ⟨li, hli⟩ := get_lt (l := l) (i := k) (by omega)
            have hgd := getD_of (d := false) hli
            conv => whnf
            refine ⟨fun hc => ?_, fun hc => ?_⟩ <;> simp at hc
            · obtain ⟨x, hx⟩ := get_lt hc
              have hxo := hgo' k ls hls x (List.mem_of_getElem? hx)
              obtain ⟨lt, hlt⟩ := get_lt (l := l) (i := x.to.toNat) (by omega)
              rw [drop_cons hx, mkL, hgd] at hgo
              have hst : (if (li && everyW x.entry) = true then l.set x.to.toNat true else l) = l.set x.to.toNat (lt || li) := by
                unfold everyW
                cases li
                · rw [Bool.or_false]
                  exact (set_self hlt).symm
                · simp
              rw [hst] at hgo
              conv => whnf
              repeat ((first | refine ⟨gP_of ⟨by omega, by omega⟩, ?_⟩ | refine ix (by assumption) ?_ | (intro (b9 : Nat)) | (refine ixo (i := k) (by omega) ?_) | (refine ⟨x.to.toNat, gP_of ⟨by omega, by omega⟩, ?_⟩)
                             | (refine ldE encB_len (.tail _ (.head _)) (Nat.zero_add _) hli ?_) | (refine ldE encB_len (.tail _ (.head _)) (Nat.zero_add _) hlt ?_) | (refine stE (lt || li) (by decide) encB_len (i := x.to.toNat) (by omega) (Nat.zero_add _) rfl (.there (.here _)) ?_)
                             | refine ⟨_, _, Rem.here _, ⟨Nat.le_of_ble_eq_true rfl, rfl⟩, ?_⟩ | refine And.intro (by show drawOK (opsAt Tryz.f106 _) _ = true; decide +kernel) ?_); conv => whnf)
              exact ⟨_, by omega, j + 1, _, rfl, rfl, rfl, by omega, by rw [List.length_set]; exact hl, hgo⟩
            · rw [drop_nil hc, mkL] at hgo
              conv => whnf
              repeat (refine ⟨gP_of ⟨by omega, by omega⟩, ?_⟩; conv => whnf)
              exact ⟨_, by omega, k + 1, _, rfl, rfl, rfl, by omega, hl, hgo⟩
        · rw [drop_nil hk2, rdGo, ← hrm] at hgo
          have hglen : (g.map encLnks).length = g.length := List.length_map _
          have hfr : ∀ j, l.getD j false = fromV g j := fun j => by rw [← hgo]; rfl
          have hT0 : ∀ j, j ≤ g.length → t0.getD j false = toF g g.length j := by
            intro j hj
            rw [ht0, gdSet]
            unfold toF
            by_cases hj2 : g.length = j
            · subst hj2
              simp [toV_end]
            · have : ¬ g.length ≤ j := by omega
              simp [hj2, this, List.getElem?_replicate]
              split <;> rfl
          have hrep : ∀ (es : List (Int × Int)), Seen es (fun e => ((C.take i).any (usedG e)) = true) → Seen es (fun e => ((C.take i).any (usedG e)) = true ∨ UsedFrom g g.length e) := by
            intro es h
            refine h.congr fun e => ⟨fun h => h.elim id ?_, .inl⟩
            rintro ⟨i, es, x, h1, h2, _⟩
            have := (List.getElem?_eq_some_iff.1 h2).1
            omega
          have hse0 := hrep es hse
          clear hgo hrm
          conv => whnf
          repeat (refine ⟨gP_of ⟨by omega, by omega⟩, ?_⟩; conv => whnf)
          refine sloop rfl mixed [3, 5, 7, 8, 13, 17, 18, 19] [] (fun m r h => ∃ (a : Nat) (t : List Bool) (es : List (Int × Int)), r = [(3, [], .omap mb), (5, [], .sl 1 none (g.map encLnks)), (7, [], .osl fb 0 (g.length + 1) 1), (8, [], .osl b 0 (g.length + 1) 1), (13, [], .int .i64 ((a : Int) - 1)), (17, [], encCor C), (18, [], .int .i64 (C.map encGr).length), (19, [], .int .i64 i)] ∧ h = [(b, .vec (t.map encB).flatten), (fb, .vec (l.map encB).flatten), (mb, mapI es)] ∧ m = a ∧ a ≤ g.length ∧ t.length = g.length + 1 ∧ (∀ j, j ≤ g.length → t.getD j false = toF g a j) ∧ Seen es (fun e => ((C.take i).any (usedG e)) = true ∨ UsedFrom g a e)) ?_ ?_
          · conv => whnf
            exact ⟨_, g.length, t0, es, by rw [hglen], rfl, rfl, by omega, ht0n, hT0, hse0⟩
          · rintro m r hB ⟨_, t, es2, rfl, rfl, rfl, ha, htn, htT, hse2⟩
            conv => whnf
            skip
            refine ⟨fun ha2 => ?_, fun ha2 => ?_⟩ <;> simp only [decide_eq_true_eq, decide_eq_false_iff_not] at ha2
            · obtain ⟨a, rfl⟩ : ∃ a, m = a + 1 := ⟨m - 1, by omega⟩
              have hk1 : ((a + 1 : Nat) : Int) - 1 = (a : Int) := by omega
              rw [hk1]
              obtain ⟨ls, hls⟩ := get_lt (l := g) (i := a) (by omega)
              have hmany := hgf.row ls (List.mem_of_getElem? hls)
              conv => whnf
              repeat (refine ix (by assumption) ?_; conv => whnf)
              refine sloop rfl mixed [3, 5, 7, 8, 13, 17, 18, 19, 75, 76, 77] [] (fun m r h => ∃ (k : Nat) (t : List Bool) (es : List (Int × Int)), r = [(3, [], .omap mb), (5, [], .sl 1 none (g.map encLnks)), (7, [], .osl fb 0 (g.length + 1) 1), (8, [], .osl b 0 (g.length + 1) 1), (13, [], .int .i64 a), (17, [], encCor C), (18, [], .int .i64 (C.map encGr).length), (19, [], .int .i64 i), (75, [], .sl 2 none (ls.map encLnk)), (76, [], .int .i64 (ls.map encLnk).length), (77, [], .int .i64 k)] ∧ h = [(b, .vec (t.map encB).flatten), (fb, .vec (l.map encB).flatten), (mb, mapI es)] ∧ m = ls.length - k ∧ k ≤ ls.length ∧ t.length = g.length + 1 ∧ (∀ j, j ≤ g.length → t.getD j false = toK g a ls k j) ∧ Seen es (fun e => (((C.take i).any (usedG e)) = true ∨ UsedFrom g (a + 1) e) ∨ UsedAt g a ls k e)) ?_ ?_
              · conv => whnf
                refine ⟨_, 0, t, es2, rfl, rfl, rfl, by omega, htn, fun j hj => ?_, hse2.congr fun e => ⟨fun h => h.elim id fun h => ?_, .inl⟩⟩
                · rw [htT j hj]
                  unfold toK
                  by_cases hja : j = a
                  · rw [if_pos hja, hja]
                    unfold toF
                    simp
                    intro h
                    omega
                  · rw [if_neg hja]
                · obtain ⟨y, hy, _⟩ := h
                  rw [List.take_zero] at hy
                  cases hy
              · rintro m r hC ⟨k, t, es3, rfl, rfl, rfl, hk, htn, htT, hse3⟩
                obtain ⟨ta, hta⟩ := get_lt (l := t) (i := a) (by omega)
                obtain ⟨la, hla⟩ := get_lt (l := l) (i := a) (by omega)
                conv => whnf
                refine ⟨fun hc => ?_, fun hc => ?_⟩ <;> simp at hc
                · obtain ⟨x, hx⟩ := get_lt hc
                  have hxo := hgo' a ls hls x (List.mem_of_getElem? hx)
                  obtain ⟨tx, htx⟩ := get_lt (l := t) (i := x.to.toNat) (by omega)
                  have hne : x.to.toNat ≠ a := by omega
                  have htx2 : (t.set a (ta || tx))[x.to.toNat]? = some tx := by rw [List.getElem?_set, if_neg (fun h => hne h.symm)]; exact htx
                  have htv : tx = toV g x.to.toNat := by
                    have h := htT x.to.toNat (by omega)
                    rw [getD_of htx] at h
                    rw [h, toK, if_neg hne, toF, decide_eq_true (by omega), Bool.true_and]
                  have hlv : la = fromV g a := by rw [← hfr a, getD_of hla]
                  have htT2 : ∀ j, j ≤ g.length → (t.set a (ta || tx)).getD j false = toK g a ls (k + 1) j := by
                    intro j hj
                    rw [gdSetV (by omega)]
                    by_cases hja : a = j
                    · subst hja
                      have h := htT a hj
                      rw [getD_of hta, toK, if_pos rfl] at h
                      rw [if_pos rfl, toK, if_pos rfl, take_snoc hx, List.any_append, ← h, htv]
                      simp
                    · rw [if_neg hja, htT j hj, toK, toK, if_neg (fun h => hja h.symm), if_neg (fun h => hja h.symm)]
                  have hstep := usedAt_step (g := g) (a := a) hx
                  conv => whnf
                  repeat ((first | refine ix (by assumption) ?_ | (intro (b9 : Nat)) | (refine ixo (i := a) (by omega) ?_) | (refine ⟨x.to.toNat, gP_of ⟨by omega, by omega⟩, ?_⟩) | (refine ldE encB_len (.head _) (Nat.zero_add _) hta ?_)
                                 | (refine ldE encB_len (.head _) (Nat.zero_add _) htx ?_) | (refine stE (ta || tx) (by decide) encB_len (i := a) (by omega) (Nat.zero_add _) rfl (.here _) ?_)
                                 | (refine ldE encB_len (.tail _ (.head _)) (Nat.zero_add _) hla ?_) | (refine ldE encB_len (.head _) (Nat.zero_add _) htx2 ?_) | refine ⟨_, _, Rem.here _, ⟨Nat.le_of_ble_eq_true rfl, rfl⟩, ?_⟩); conv => whnf)
                  refine ⟨fun hq => ?_, fun hq => ?_⟩
                  · have hq : (la && tx) = true := hq
                    rw [Bool.and_eq_true] at hq
                    conv => whnf
                    repeat ((first | refine ⟨gP_of ⟨by omega, by omega⟩, ?_⟩ | (refine upA heqInt plainInt (.there (.there (.here _))) ?_)); conv => whnf)
                    refine ⟨_, by omega, k + 1, _, _, rfl, rfl, rfl, by omega, by rw [List.length_set]; exact htn, htT2, hse3.set fun e => ?_⟩
                    rw [hstep e]
                    constructor
                    · rintro (h | h | h)
                      · exact .inl (.inl h)
                      · exact .inl (.inr h)
                      · exact .inr h.1
                    · rintro ((h | h) | h)
                      · exact .inl h
                      · exact .inr (.inl h)
                      · exact .inr (.inr ⟨h, by rw [← hlv]; exact hq.1, by rw [← htv]; exact hq.2⟩)
                  · have hq : (la && tx) = false := hq
                    conv => whnf
                    repeat (refine ⟨gP_of ⟨by omega, by omega⟩, ?_⟩; conv => whnf)
                    refine ⟨_, by omega, k + 1, _, _, rfl, rfl, rfl, by omega, by rw [List.length_set]; exact htn, htT2, hse3.congr fun e => ?_⟩
                    rw [hstep e]
                    constructor
                    · rintro (h | h | h)
                      · exact .inl h
                      · exact .inr h
                      · rw [hlv, htv, h.2.1, h.2.2] at hq
                        cases hq
                    · rintro (h | h)
                      · exact .inl h
                      · exact .inr (.inl h)
                · have hk3 : k = ls.length := by omega
                  subst hk3
                  conv => whnf
                  repeat (refine ⟨gP_of ⟨by omega, by omega⟩, ?_⟩; conv => whnf)
                  refine ⟨_, Nat.lt_succ_self _, a, t, es3, rfl, rfl, rfl, by omega, htn, fun j hj => ?_, hse3.congr fun e => ?_⟩
                  · rw [htT j hj, toK, List.take_length]
                    by_cases hja : j = a
                    · subst hja
                      rw [if_pos rfl, toF, decide_eq_true (Nat.le_refl _), Bool.true_and, toV_cons hgo' hls]
                    · rw [if_neg hja]
                      unfold toF
                      congr 1
                      rw [decide_eq_decide]
                      omega
                  · rw [usedFrom_step hls, or_assoc]
            · have hm0 : m = 0 := by omega
              subst hm0
              conv => whnf
              repeat (refine ⟨gP_of ⟨by omega, by omega⟩, ?_⟩; conv => whnf)
              refine ⟨_, _, Turn.one (RLe.refl _) (by simp), _, by omega, i + 1, es2, rfl, rfl, rfl, by omega, hse2.congr fun e => ?_⟩
              exact hnext e
    · rw [List.take_of_length_le hi2] at hse
      conv => whnf
      skip
      exact ⟨mb, es, rfl, rfl, hse⟩
end Go.Abs.Wall.Lst
set_option maxRecDepth 100000
set_option maxHeartbeats 2000000
set_option linter.unusedVariables false
set_option linter.unusedSimpArgs false
namespace Go.Abs.Wall.Lst
open Go Go.Abs Go.Proofs Go.Abs.Wall
/-! ### the smallest choice -/
def c150 : Cfg := ⟨[0, 2, 4], [], [], [], [], []⟩
def c107 : Cfg := ⟨[0, 1, 2, 3, 8, 9, 10, 14, 16, 27, 28, 29, 50], [], [], [], [(10, [0, 1, 3, 4, 5, 6, 7, 9, 10, 11, 12, 13, 14, 2, 8, 15, 16, 17, 18, 19, 20], []), (6, [], [])], [34]⟩
def c158 : Cfg := ⟨[0, 2], [], [], [], [], []⟩
def c212 : Cfg := ⟨[0, 1, 2, 3, 8, 9, 10, 11, 12, 13, 14, 15, 16, 17, 18, 23, 29, 35, 50, 68, 72, 87, 113], [], [], [], [(17, [0, 1, 2, 3, 4, 5, 6, 7, 8, 9, 10, 11, 12, 13, 14], [])], []⟩
def c249 : Cfg := ⟨[0, 1, 2, 6, 7, 12, 30], [], [], [], [(4, [0, 1, 2, 3, 4, 5, 6, 7, 8, 9, 10, 11, 12, 13, 14], []), (6, [0, 1, 2, 3, 4, 5, 6, 7, 8, 9, 10, 11, 12, 13, 14, 15, 16, 17], [])], []⟩
def c138 : Cfg := ⟨[0, 2], [], [], [], [], []⟩
def c197 : Cfg := ⟨[0, 2, 4, 8, 14], [], [], [], [], []⟩
def c150o : Cfg := ⟨c150.keep, [5, 7], c150.frz, c150.spl, c150.ords, [5]⟩
def sortI (l : List Int) : List Int := l.mergeSort fun x y => decide (x ≤ y)
theorem flat_ints : ∀ l : List Int, (ints l).flatten = intsV l
  | [] => rfl
  | x :: t => by
    have := flat_ints t
    unfold ints intsV at this ⊢
    simp
    simpa using this
theorem cloneOwn (l : List Int) (hl : l.length ≤ 1048576) (hne : l ≠ []) :
    ACalls Tryz.prog 150 [.sl 1 none (ints l)] [] (fun v h' => ∃ b, v = .osl b 0 l.length 1 ∧ h' = [(b, .vec (intsV l))]) := by
  refine ACalls.post (R := fun v h' => ∃ b Z, v = .osl b 0 l.length 1 ∧ h' = (b, .vec (intsV l)) :: Z) ?_ ?_
  · refine fcalls (F := Tryz.f150) c150o rfl rfl rfl mixed rfl fun X => ?_
    conv => whnf
    refine ⟨ints_ne' hne, ?_⟩
    conv => whnf
    refine ⟨fun hc => ?_, fun hc => ?_⟩
    · cases hc
    · conv => whnf
      intro b
      conv => whnf
      repeat ((refine ⟨⟨⟨_, .head _⟩, by rw [ints_length]; exact List.length_pos_iff.2 hne, by rw [ints_length]; unfold AMAX; omega⟩, fun q => ?_⟩); conv => whnf)
      exact ⟨q, _, by rw [ints_length]; rfl, by rw [flat_ints]⟩
  · rintro v h1 ⟨b, Z, rfl, rfl⟩
    refine ⟨_, [(b, .vec (intsV l))], ⟨b, rfl, rfl⟩, VLe.refl _, fun k o hm => ?_, fun hn => by simp [keys]⟩
    rw [List.mem_singleton] at hm
    rw [hm]
    exact List.mem_cons_self ..
theorem sortInts (b : Nat) (l : List Int) (hne : l ≠ []) : ACalls Tryz.prog 158 [.osl b 0 l.length 1] [(b, .vec (intsV l))] (fun v h' => v = .tup [] ∧ h' = [(b, .vec (intsV (sortI l)))]) :=
  sort_acalls ⟨Tryz.f158, _, rfl, rfl, rfl⟩ (Any.slices_Sort_int Tryz.lays189) b l hne
theorem lenZero : QCall Tryz.prog 197 [.int .u64 0] [] (.int .i64 0) := by
  refine fcalls (F := Tryz.f197) c197 rfl rfl rfl mixed rfl fun X => ?_
  conv => whnf
  repeat ((first | (refine cF (by decide) ?_) | (refine ⟨0, 0, gP_of ⟨rfl, rfl⟩, ?_⟩) | (refine ⟨gP_of (by decide), ?_⟩)); conv => whnf)
  exact ⟨rfl, rfl⟩
theorem lenZ : QCall Tryz.prog 138 [.int .u64 0] [] (.int .i64 0) := by
  refine fcalls (F := Tryz.f138) c138 rfl rfl rfl mixed rfl fun X => ?_
  conv => whnf
  refine cF rfl ?_
  conv => whnf
  repeat (refine QCall.k0 (lenZero) ?_; conv => whnf)
  exact ⟨rfl, rfl⟩
theorem insZero : QCall Tryz.prog 249 [.sl 1 none [], .int .i64 0, .int .i64 0] [] (.tup []) := by
  refine fcalls (F := Tryz.f249) c249 rfl rfl rfl mixed rfl fun X => ?_
  conv => whnf
  repeat (refine ⟨gP_of ⟨by omega, by omega⟩, ?_⟩; conv => whnf)
  refine sloop rfl mixed [0, 1, 2, 6] [] (fun m r h => ∃ (i : Nat), r = [(0, [], .sl 1 none []), (1, [], .int .i64 0), (2, [], .int .i64 0), (6, [], .int .i64 1)] ∧ h = [] ∧ m = 0 ∧ i = 0) ?_ ?_
  · conv => whnf
    exact ⟨_, 0, rfl, rfl, rfl, rfl⟩
  · rintro m r h ⟨i, rfl, rfl, rfl, hi⟩
    conv => whnf
    refine ⟨fun hc => ?_, fun hc => ?_⟩
    · cases hc
    · conv => whnf
      exact ⟨rfl, rfl⟩
theorem pdqZero : QCall Tryz.prog 212 [.sl 1 none [], .int .i64 0, .int .i64 0, .int .i64 0] [] (.tup []) := by
  refine fcalls (F := Tryz.f212) c212 rfl rfl rfl mixed rfl fun X => ?_
  conv => whnf
  skip
  refine sloop rfl mixed [0, 1, 2, 3, 8, 9] [] (fun m r h => ∃ (i : Nat), r = [(0, [], .sl 1 none []), (1, [], .int .i64 0), (2, [], .int .i64 0), (3, [], .int .i64 0), (8, [], .bool true), (9, [], .bool true)] ∧ h = [] ∧ m = 0 ∧ i = 0) ?_ ?_
  · conv => whnf
    exact ⟨_, 0, rfl, rfl, rfl, rfl⟩
  · rintro m r h ⟨i, rfl, rfl, rfl, hi⟩
    conv => whnf
    repeat ((first | refine ⟨gP_of ⟨by omega, by omega⟩, ?_⟩ | (refine cT rfl ?_) | refine QCall.k0 (insZero) ?_); conv => whnf)
    exact ⟨rfl, rfl⟩
theorem sortZero : QCall Tryz.prog 158 [.sl 1 none []] [] (.tup []) := by
  refine fcalls (F := Tryz.f158) c158 rfl rfl rfl mixed rfl fun X => ?_
  conv => whnf
  repeat ((first | refine QCall.k0 (lenZ) ?_ | refine QCall.k0 (pdqZero) ?_); conv => whnf)
  exact ⟨rfl, rfl⟩
def okP (C : Cor) (l : List Int) : Bool := allB C (memW (sortI l))
/-- what fewest answers beside whether there is a choice -/
def fewL (C : Cor) (fixed free : List Int) : Nat → List Int
  | 0 => sortI fixed
  | n + 1 => match pickM (okP C) fixed free (n + 1) with
    | some p => sortI p
    | none => []
theorem fewL_some {C : Cor} {fixed free p : List Int} {n : Nat} (h : pickM (okP C) fixed free n = some p) : fewL C fixed free n = sortI p := by
  cases n with
  | zero =>
    rw [pickM] at h
    split at h
    · cases h; rfl
    · cases h
  | succ n => rw [fewL, h]
theorem sortI_len (l : List Int) : (sortI l).length = l.length := (List.mergeSort_perm _ _).length_eq
theorem fewestA {C : Cor} (hg : ∀ g ∈ C, GFit g) (hC : C.length ≤ 1048576) : ∀ (n : Nat) (fixed free : List Int), fixed.length + n ≤ 1048576 → free.length ≤ 1048576 →
    QCall Tryz.prog 107 [encCor C, .sl 1 none (ints fixed), .sl 1 none (ints free), .int .i64 n] [] (.tup [.sl 1 none (ints (fewL C fixed free n)), .bool (pickM (okP C) fixed free n).isSome])
  | 0, fixed, free, h1, h2 => by
    have hv : (pickM (okP C) fixed free 0).isSome = allB C (memW (sortI fixed)) := by
      rw [pickM]
      unfold okP
      split <;> simp_all
    rw [hv, fewL]
    have hch : ∀ l : List Int, l.length ≤ 1048576 → QCall Tryz.prog 57 [encCor C, .fn 133 [.iptr [.sl 1 none (ints l)]]] [] (.bool (allB C (memW l))) := by
      intro l hl
      exact allA hg hC (fun e => chosenF l (by unfold LMAX; omega) e)
    by_cases hne : fixed = []
    · subst hne
      have hs : sortI ([] : List Int) = [] := by unfold sortI; simp
      rw [hs]
      refine QCall.of ?_
      refine fcalls (F := Tryz.f107) c107 rfl rfl rfl mixed rfl fun X => ?_
      conv => whnf
      refine cF (by rw [decide_eq_false_iff_not]; omega) ?_
      conv => whnf
      refine cT rfl ?_
      conv => whnf
      repeat ((first | refine QCall.k0 (cloneI [] (by decide)) ?_ | refine QCall.k0 (sortZero) ?_); conv => whnf)
      refine region_turn rfl mixed (Turn.refl _ _) ?_
      conv => whnf
      repeat ((first | refine QCall.k0 (chosenA []) ?_ | (refine QCall.k (hch [] (by simp)) ?_)); conv => whnf)
      exact VLe.refl _
    · refine QCall.of ?_
      refine fcalls (F := Tryz.f107) c107 rfl rfl rfl mixed rfl fun X => ?_
      conv => whnf
      refine cF (by rw [decide_eq_false_iff_not]; omega) ?_
      conv => whnf
      refine cT rfl ?_
      conv => whnf
      repeat ((refine ACalls.mono ?_ (cloneOwn fixed (by omega) hne)); conv => whnf)
      rintro v h' ⟨b, rfl, rfl⟩
      repeat ((refine ACalls.mono ?_ (sortInts b fixed hne)); conv => whnf)
      rintro v h' ⟨rfl, rfl⟩
      conv => whnf
      refine region_turn rfl mixed (Turn.freeze (b := b) (.here _) (FzH.refl _) (.cons (.refl _) (.cons (.refl _) (.cons (.refl _) (.cons (.refl _) (.cons (fzInts (sortI_len fixed)) (FzR.refl _))))))) ?_
      conv => whnf
      repeat ((first | refine QCall.k0 (chosenA _) ?_ | (refine QCall.k (hch (sortI fixed) (by rw [sortI_len]; omega)) ?_)); conv => whnf)
      exact VLe.refl _
  | n + 1, fixed, free, h1, h2 => by
    have ih := fewestA hg hC n
    refine QCall.of ?_
    refine fcalls (F := Tryz.f107) c107 rfl rfl rfl mixed rfl fun X => ?_
    conv => whnf
    refine ⟨fun hc => ?_, fun hc => ?_⟩
    · rw [decide_eq_true_eq, ints_length] at hc
      have hs : pickM (okP C) fixed free (n + 1) = none := pickM_short _ _ _ (by omega)
      rw [fewL, hs]
      conv => whnf
      skip
      exact VLe.tup (.cons (VLe.nil (by decide)) (.cons (VLe.refl _) .nil))
    rw [decide_eq_false_iff_not, ints_length] at hc
    conv => whnf
    refine cF (by rw [decide_eq_false_iff_not]; omega) ?_
    conv => whnf
    skip
    refine tloop rfl mixed [0, 1, 2, 3, 27, 28] [] (fun m r h => ∃ (i : Nat), r = [(0, [], encCor C), (1, [], .sl 1 none (ints fixed)), (2, [], .sl 1 none (ints free)), (3, [], .int .i64 (n + 1 : Nat)), (27, [], .int .i64 (ints free).length), (28, [], .int .i64 i)] ∧ h = [] ∧ m = free.length - i ∧ i ≤ free.length ∧ pickM (okP C) fixed free (n + 1) = pickM (okP C) fixed (free.drop i) (n + 1)) ?_ ?_
    · conv => whnf
      exact ⟨_, _, Turn.refl _ _, _, 0, rfl, rfl, rfl, by omega, rfl⟩
    · rintro m r h' ⟨i, rfl, rfl, rfl, hi, hp⟩
      conv => whnf
      refine ⟨fun hi2 => ?_, fun hi2 => ?_⟩
      · rw [decide_eq_true_eq, ints_length] at hi2
        obtain ⟨x, hx⟩ := get_lt (l := free) (i := i) (by omega)
        rw [drop_cons hx, pickM] at hp
        have ih' := ih (fixed ++ [x]) (free.drop (i + 1)) (by simp; omega) (by simp; omega)
        rw [show ((n : Nat) : Int) = ((n + 1 : Nat) : Int) - 1 by omega] at ih'
        have hfr : ((ints free).take (((ints free).length : Nat) : Int).toNat).drop ((i : Int) + 1).toNat = ints (free.drop (i + 1)) := by
          rw [Int.toNat_natCast, List.take_length, show ((i : Int) + 1).toNat = i + 1 by omega]
          unfold ints
          rw [List.map_drop]
        rw [← hfr] at ih'
        conv => whnf
        repeat ((first | refine ⟨gP_of ⟨by omega, by omega⟩, ?_⟩ | refine ix (by assumption) ?_ | (refine ⟨gP_of ⟨by omega, by rw [ints_length]; omega, by rw [ints_length]; omega⟩, ?_⟩)
                       | (refine ACalls.mono ?_ (cloneIT fixed (by unfold AMAX; omega))) | refine And.intro (by show drawOK (opsAt Tryz.f107 _) _ = true; decide +kernel) ?_); conv => whnf)
        rintro v h' (⟨he, rfl, rfl⟩ | ⟨q, rfl, rfl⟩)
        · obtain rfl : fixed = [] := by simpa [ints] using he
          repeat ((first | (refine ⟨Nat.le_of_ble_eq_true rfl, fun q3 => ?_⟩) | (refine gcall (QCall.args ih' (.cons (VLe.refl _) (.cons VLe.sl (.cons (VLe.refl _) (.cons (VLe.refl _) .nil))))) ?_)); conv => whnf)
          refine ⟨fun hq => ?_, fun hq => ?_⟩
          · obtain ⟨p, hpp⟩ := Option.isSome_iff_exists.1 hq
            rw [hpp] at hp
            simp only at hp
            rw [fewL_some hpp, fewL, hp]
            conv => whnf
            skip
            exact VLe.refl _
          · have hpn := Option.isSome_eq_false_iff.1 hq
            rw [Option.isNone_iff_eq_none] at hpn
            rw [hpn] at hp
            simp only at hp
            conv => whnf
            repeat (refine ⟨gP_of ⟨by omega, by omega⟩, ?_⟩; conv => whnf)
            exact ⟨_, _, Turn.sub (by simp) (by simp [keys]), _, (by omega), i + 1, rfl, rfl, rfl, by omega, hp⟩
        · have hfl : (ints fixed ++ [[AV.int .i64 x]]).length ≤ AMAX := by rw [List.length_append, ints_length]; simp; unfold AMAX; omega
          repeat ((first | (refine ⟨hfl, fun q3 => ⟨_, .here _, ?_⟩⟩) | (refine gcall (QCall.args ih' (.cons (VLe.refl _) (.cons clV (.cons (VLe.refl _) (.cons (VLe.refl _) .nil))))) ?_)); conv => whnf)
          refine ⟨fun hq => ?_, fun hq => ?_⟩
          · obtain ⟨p, hpp⟩ := Option.isSome_iff_exists.1 hq
            rw [hpp] at hp
            simp only at hp
            rw [fewL_some hpp, fewL, hp]
            conv => whnf
            skip
            exact VLe.refl _
          · have hpn := Option.isSome_eq_false_iff.1 hq
            rw [Option.isNone_iff_eq_none] at hpn
            rw [hpn] at hp
            simp only at hp
            conv => whnf
            repeat (refine ⟨gP_of ⟨by omega, by omega⟩, ?_⟩; conv => whnf)
            exact ⟨_, _, Turn.sub (by simp) (by simp [keys]), _, (by omega), i + 1, rfl, rfl, rfl, by omega, hp⟩
      · rw [decide_eq_false_iff_not, ints_length] at hi2
        rw [drop_nil (by omega), pickM] at hp
        rw [fewL, hp]
        conv => whnf
        skip
        exact VLe.tup (.cons (VLe.nil (by decide)) (.cons (VLe.refl _) .nil))
end Go.Abs.Wall.Lst
set_option maxRecDepth 100000
set_option maxHeartbeats 2000000
set_option linter.unusedVariables false
set_option linter.unusedSimpArgs false
namespace Go.Abs.Wall.Lst
open Go Go.Abs Go.Proofs Go.Abs.Wall
/-! ### the specification's smallest choice -/
theorem lnks_len (g : List (List Edg)) : (lnks g).length = g.length := by unfold lnks; rw [List.length_map]
theorem lnks_get {g : List (List Edg)} {i : Nat} {es : List Edg} (h : g[i]? = some es) : (lnks g)[i]? = some (es.map lnkOf) := by unfold lnks; rw [List.getElem?_map, h]; rfl
theorem markK_all (a : Nat) : ∀ (es : List Edg) (k : Nat) (l : List Bool), markK wantAll a es k l = mkL everyW a (es.map lnkOf) l
  | [], k, l => rfl
  | x :: t, k, l => by
    rw [markK, List.map_cons, mkL, markK_all a t]
    rfl
theorem reach_all : ∀ (g : List (List Edg)) (i : Nat) (l : List Bool), reachGo wantAll g i l = rdGo everyW (lnks g) i l
  | [], _, _ => rfl
  | es :: g, i, l => by
    rw [reachGo, markK_all, reach_all g]
    rfl
theorem reach_fromV (g : List (List Edg)) (i : Nat) : (reachM g wantAll).getD i false = fromV (lnks g) i := by
  unfold reachM fromV rdL
  rw [reach_all, lnks_len]
theorem any_cong {α : Type} {p q : α → Bool} : ∀ {l : List α}, (∀ x ∈ l, p x = q x) → l.any p = l.any q
  | [], _ => rfl
  | x :: t, h => by
    rw [List.any_cons, List.any_cons, h x (List.mem_cons_self ..), any_cong fun y hy => h y (List.mem_cons_of_mem _ hy)]
theorem endB_toV {g : List (List Edg)} (hg : GOK g) (hl : LOK (lnks g)) : ∀ (d i : Nat), i + d = g.length → endB g i = toV (lnks g) i := by
  intro d
  induction d using Nat.strongRecOn with
  | _ d ih =>
    intro i hi
    by_cases he : d = 0
    · have : i = g.length := by omega
      subst this
      rw [endB_end]
      have := toV_end (lnks g)
      rw [lnks_len] at this
      exact this.symm
    · obtain ⟨es, hes⟩ := get_lt (l := g) (i := i) (by omega)
      rw [endB_cons hg hes, toV_cons hl (lnks_get hes), List.any_map]
      refine any_cong fun x hx => ?_
      have hxo := hg.edge i es hes x hx
      have h1 := hxo.lo
      have h2 := hxo.hi
      show endB g x.to.toNat = toV (lnks g) x.to.toNat
      exact ih (g.length - x.to.toNat) (by omega) _ (by omega)
def hitE (g : List (List Lnk)) (e : Int) (k : Nat) (x : Lnk) : Bool := (fromV g k && toV g x.to.toNat) && decide (x.entry = e)
theorem usedG_hit (g : List (List Lnk)) (e : Int) : usedG e g = (List.range g.length).any fun k => (g.getD k []).any (hitE g e k) := by
  unfold usedG
  refine any_cong fun k hk => ?_
  unfold hitE
  cases fromV g k with
  | true => simp
  | false => simp
def c108 : Cfg := ⟨[0, 1, 4, 5, 6, 7, 8, 9, 10, 17, 34, 43, 76], [], [], [], [], []⟩
def c109 : Cfg := ⟨[0, 1, 2, 3, 4, 5, 12, 13, 14, 15, 16, 17, 18, 20, 29, 39, 54, 76], [], [], [], [(12, [0, 1, 2, 3, 5, 6, 7, 8, 9, 11, 12, 13, 14, 4, 10, 15, 16, 17, 18, 19, 20], [])], []⟩
def c48 : Cfg := ⟨[0, 1, 2, 4, 5, 6, 7, 8, 9, 10, 11, 12, 13, 14, 19, 32, 36, 39, 50, 60, 64, 75], [], [], [], [(16, [], [])], []⟩
theorem refUsed {H : Hou} {G : List (List (List Edg))} (hG : ∀ g ∈ G, EFit g ∧ GOK g) (hGl : G.length ≤ 1048576) (e : Int) :
    QCall Tryz.prog 108 [.iptr (encWld H G), .int .i64 e] [] (.bool (usedB (G.map lnks) e)) := by
  refine fcalls (F := Tryz.f108) c108 rfl rfl rfl mixed rfl fun X => ?_
  conv => whnf
  skip
  refine sloop rfl mixed [0, 1, 5] [] (fun m r h => ∃ (i : Nat), r = [(0, [], .iptr (encWld H G)), (1, [], .int .i64 e), (5, [], .int .i64 i)] ∧ h = [] ∧ m = G.length - i ∧ i ≤ G.length ∧ usedB (G.map lnks) e = (G.drop i).any fun g => usedG e (lnks g)) ?_ ?_
  · conv => whnf
    exact ⟨_, 0, rfl, rfl, rfl, by omega, by unfold usedB; rw [List.any_map]; rfl⟩
  · rintro m r h ⟨i, rfl, rfl, rfl, hi, hu⟩
    conv => whnf
    skip
    refine ⟨fun hi2 => ?_, fun hi2 => ?_⟩ <;> simp at hi2
    · obtain ⟨g, hgi⟩ := get_lt hi2
      obtain ⟨hgf, hgk⟩ := hG g (List.mem_of_getElem? hgi)
      have hgo := hgf.ok
      have hn := hgf.few
      rw [drop_cons hgi, List.any_cons, usedG_hit, lnks_len] at hu
      conv => whnf
      repeat ((first | refine ix (by assumption) ?_ | refine QCall.k0 (refReached g (-1) (-1) hgk) ?_ | refine QCall.k0 (refEndsG g hgk) ?_); conv => whnf)
      refine sloop rfl mixed [0, 1, 5, 6, 7, 8, 9] [] (fun m r h => ∃ (k : Nat), r = [(0, [], .iptr (encWld H G)), (1, [], .int .i64 e), (5, [], .int .i64 i), (6, [], .sl 1 none (g.map encEdgs)), (7, [], .sl 1 none ((reachM g (wantE (-1) (-1))).map encB)), (8, [], .sl 1 none (((List.range (g.length + 1)).map (endB g)).map encB)), (9, [], .int .i64 k)] ∧ h = [] ∧ m = g.length - k ∧ k ≤ g.length ∧ ((List.range k).any fun k => ((lnks g).getD k []).any (hitE (lnks g) e k)) = false) ?_ ?_
      · conv => whnf
        exact ⟨_, 0, rfl, rfl, rfl, by omega, rfl⟩
      · rintro m r h ⟨k, rfl, rfl, rfl, hk, hno⟩
        conv => whnf
        skip
        refine ⟨fun hk2 => ?_, fun hk2 => ?_⟩ <;> simp at hk2
        · obtain ⟨es, hes⟩ := get_lt hk2
          have hmany := hgf.row es (List.mem_of_getElem? hes)
          have hfl := reachM_len g (wantE (-1) (-1))
          obtain ⟨fk, hfk⟩ := get_lt (l := reachM g (wantE (-1) (-1))) (i := k) (by omega)
          have hfv : fk = fromV (lnks g) k := by rw [← reach_fromV, ← wantE_all, getD_of hfk]
          conv => whnf
          skip
          refine sloop rfl mixed [0, 1, 5, 6, 7, 8, 9, 10] [] (fun m r h => ∃ (j : Nat), r = [(0, [], .iptr (encWld H G)), (1, [], .int .i64 e), (5, [], .int .i64 i), (6, [], .sl 1 none (g.map encEdgs)), (7, [], .sl 1 none ((reachM g (wantE (-1) (-1))).map encB)), (8, [], .sl 1 none (((List.range (g.length + 1)).map (endB g)).map encB)), (9, [], .int .i64 k), (10, [], .int .i64 j)] ∧ h = [] ∧ m = es.length - j ∧ j ≤ es.length ∧ ((es.take j).any fun x => hitE (lnks g) e k (lnkOf x)) = false) ?_ ?_
          · conv => whnf
            exact ⟨_, 0, rfl, rfl, rfl, by omega, rfl⟩
          · rintro m r h ⟨j, rfl, rfl, rfl, hj, hno2⟩
            conv => whnf
            repeat (refine ix (by assumption) ?_; conv => whnf)
            refine ⟨fun hj2 => ?_, fun hj2 => ?_⟩ <;> simp at hj2
            · obtain ⟨x, hx⟩ := get_lt hj2
              have hxo := hgk.edge k es hes x (List.mem_of_getElem? hx)
              have hx1 := hxo.lo
              have hx2 := hxo.hi
              have hto := endB_toV hgk hgo (g.length - x.to.toNat) x.to.toNat (by omega)
              have htx : ((List.range (g.length + 1)).map (endB g))[x.to.toNat]? = some (endB g x.to.toNat) := by
                rw [List.getElem?_map, List.getElem?_range (by omega)]; rfl
              conv => whnf
              repeat ((first | refine ix (by assumption) ?_ | (refine ixn (enc := encB) x.to.toNat (by show x.to = _; omega) htx ?_)); conv => whnf)
              have hval : ((fk && endB g x.to.toNat) && decide (x.word.form.entry = e)) = hitE (lnks g) e k (lnkOf x) := by
                rw [hfv, hto]; rfl
              refine ⟨fun hq => ?_, fun hq => ?_⟩
              · have hq : ((fk && endB g x.to.toNat) && decide (x.word.form.entry = e)) = true := hq
                rw [hval] at hq
                have hh : ((List.range g.length).any fun k => ((lnks g).getD k []).any (hitE (lnks g) e k)) = true := by
                  rw [List.any_eq_true]
                  refine ⟨k, List.mem_range.2 hk2, ?_⟩
                  rw [getD_of (lnks_get hes), List.any_map, List.any_eq_true]
                  exact ⟨x, List.mem_of_getElem? hx, hq⟩
                rw [hh, Bool.true_or] at hu
                conv => whnf
                skip
                exact ⟨congrArg AV.bool hu.symm, rfl⟩
              · have hq : ((fk && endB g x.to.toNat) && decide (x.word.form.entry = e)) = false := hq
                rw [hval] at hq
                conv => whnf
                repeat (refine ⟨gP_of ⟨by omega, by omega⟩, ?_⟩; conv => whnf)
                refine ⟨_, by omega, j + 1, rfl, rfl, rfl, by omega, ?_⟩
                rw [take_snoc hx, List.any_append, hno2]
                simpa using hq
            · rw [List.take_of_length_le hj2] at hno2
              conv => whnf
              repeat (refine ⟨gP_of ⟨by omega, by omega⟩, ?_⟩; conv => whnf)
              refine ⟨_, by omega, k + 1, rfl, rfl, rfl, by omega, ?_⟩
              rw [List.range_succ, List.any_append, hno, List.any_cons, getD_of (lnks_get hes), List.any_map]
              simpa using hno2
        · have hk3 : k = g.length := by omega
          rw [← hk3, hno, Bool.false_or] at hu
          conv => whnf
          repeat (refine ⟨gP_of ⟨by omega, by omega⟩, ?_⟩; conv => whnf)
          exact ⟨_, by omega, i + 1, rfl, rfl, rfl, by omega, hu⟩
    · rw [drop_nil hi2] at hu
      conv => whnf
      skip
      exact ⟨congrArg AV.bool hu.symm, rfl⟩
/-- the entries of a choice that the specification builds -/
def selL (N : Nat) (al be : List Int) : List Int := keepL N fun e => memW al e || memW be e
def okR (C : Cor) (N : Nat) (al be : List Int) : Bool := allB C (memW (selL N al be))
def pickL (C : Cor) (N : Nat) (al begun free : List Int) : Nat → List Int
  | 0 => selL N al begun
  | n + 1 => match pickM (okR C N al) begun free (n + 1) with
    | some p => selL N al p
    | none => []
theorem pickL_some {C : Cor} {N : Nat} {al begun free p : List Int} {n : Nat} (h : pickM (okR C N al) begun free n = some p) : pickL C N al begun free n = selL N al p := by
  cases n with
  | zero =>
    rw [pickM] at h
    split at h
    · cases h; rfl
    · cases h
  | succ n => rw [pickL, h]
theorem keepL_len' (N : Nat) (w : Int → Bool) : (keepL N w).length ≤ N := by
  unfold keepL
  rw [List.length_map]
  exact filter_len N
theorem refPickA {H : Hou} {G : List (List (List Edg))} (hG : ∀ g ∈ G, EFit g) (hGl : G.length ≤ 1048576) (hN : H.lex.entries.length ≤ 1048576) (al op : List Int) (hal : al.length ≤ 1048576) (hop : op.length ≤ 1048576) :
    ∀ (n a : Nat) (begun : List Int), begun.length + n ≤ 1048576 → a ≤ op.length →
    QCall Tryz.prog 109 [.iptr (encWld H G), .sl 1 none (ints al), .sl 1 none (ints op), .sl 1 none (ints begun), .int .i64 a, .int .i64 n] [] (.tup [.sl 1 none (ints (pickL (G.map lnks) H.lex.entries.length al begun (op.drop a) n)), .bool (pickM (okR (G.map lnks) H.lex.entries.length al) begun (op.drop a) n).isSome])
  | 0, a, begun, h1, h2 => by
    have hv : (pickM (okR (G.map lnks) H.lex.entries.length al) begun (op.drop a) 0).isSome = allB (G.map lnks) (memW (selL H.lex.entries.length al begun)) := by
      rw [pickM]
      unfold okR
      split <;> simp_all
    rw [hv, pickL]
    obtain ⟨N, hNN⟩ : ∃ N, N = H.lex.entries.length := ⟨_, rfl⟩
    obtain ⟨w, hw⟩ : ∃ w : Int → Bool, w = fun e => memW al e || memW begun e := ⟨_, rfl⟩
    have hse : selL H.lex.entries.length al begun = keepL N w := by rw [hNN, hw]; rfl
    have hsl := keepL_len' N w
    have hra := refAll hG hGl (H := H) (keepL N w) (by unfold LMAX; omega)
    rw [hse]
    refine QCall.of ?_
    refine fcalls (F := Tryz.f109) c109 rfl rfl rfl mixed rfl fun X => ?_
    conv => whnf
    skip
    refine ⟨fun hc => ?_, fun hc => ?_⟩
    case refine_2 => simp at hc
    conv => whnf
    skip
    refine tloop rfl mixed [0, 1, 3, 14, 15] [] (fun m r h => ∃ (i : Nat) (ov : AV) (oh : Heap), r = [(0, [], .iptr (encWld H G)), (1, [], .sl 1 none (ints al)), (3, [], .sl 1 none (ints begun)), (14, [], ov), (15, [], .int .i64 i)] ∧ h = oh ∧ m = N - i ∧ i ≤ N ∧ Out 1 encNat ((List.range i).filter (keepF w)) ov oh) ?_ ?_
    · conv => whnf
      exact ⟨_, _, Turn.refl _ _, _, 0, .nilS, [], rfl, rfl, rfl, by omega, .inl ⟨rfl, rfl, rfl⟩⟩
    · rintro m r h' ⟨i, ov, oh, rfl, rfl, rfl, hi, ho⟩
      have hol := filter_len (p := keepF w) i
      conv => whnf
      skip
      refine ⟨fun hi2 => ?_, fun hi2 => ?_⟩
      · have hi2 : (i : Int) < (H.lex.entries.map encEnt).length := by simpa using hi2
        rw [List.length_map, ← hNN] at hi2
        have hsn := filter_snoc (p := keepF w) i
        have hwi : keepF w i = (memW al i || memW begun i) := by rw [hw]; rfl
        rw [hwi] at hsn
        rcases ho with ⟨he, rfl, rfl⟩ | ⟨q, rfl, rfl⟩
        all_goals
          conv => whnf
          repeat ((first | refine QCall.k0 (refHas al i (by unfold LMAX; omega)) ?_ | refine gcall (refHas begun i (by unfold LMAX; omega)) ?_); conv => whnf)
          refine ⟨fun hq => ?_, fun hq => ?_⟩
          · have hq : (memW al i || memW begun i) = true := hq
            rw [if_pos hq] at hsn
            conv => whnf
            repeat ((first | refine ⟨gP_of ⟨by omega, by omega⟩, ?_⟩ | (refine ⟨Nat.le_of_ble_eq_true rfl, fun q' => ?_⟩) | (refine ⟨(by simp; unfold AMAX; omega), fun q' => ⟨_, .here _, ?_⟩⟩)); conv => whnf)
            refine ⟨_, _, Turn.refl _ _, _, (by omega), i + 1, _, [(q', .tok)], rfl, rfl, rfl, by omega, .inr ⟨q', ?_, rfl⟩⟩
            rw [hsn, List.map_append]
            first | done | rfl | (rw [he]; done) | (rw [he]; rfl)
          · have hq : (memW al i || memW begun i) = false := hq
            rw [if_neg (by rw [hq]; decide), List.append_nil] at hsn
            conv => whnf
            repeat (refine ⟨gP_of ⟨by omega, by omega⟩, ?_⟩; conv => whnf)
            refine ⟨_, _, Turn.refl _ _, _, (by omega), i + 1, _, _, rfl, rfl, rfl, by omega, ?_⟩
            rw [hsn]
            first | exact .inl ⟨he, rfl, rfl⟩ | exact .inr ⟨q, rfl, rfl⟩
      · have hi2 : ¬ (i : Int) < (H.lex.entries.map encEnt).length := by simpa using hi2
        rw [List.length_map, ← hNN] at hi2
        have hi3 : i = N := by omega
        subst hi3
        have hle : VLe ov (.sl 1 none (ints (keepL i w))) := by
          have := ho.le (by decide)
          unfold keepL
          rw [ints_nat]
          exact this
        conv => whnf
        repeat ((refine QCall.k0 (QCall.args hra (.cons (VLe.refl _) (.cons hle .nil))) ?_); conv => whnf)
        exact VLe.tup (.cons hle (.cons (VLe.refl _) .nil))
  | n + 1, a, begun, h1, h2 => by
    have ih := refPickA hG hGl hN al op hal hop n
    obtain ⟨ok, hok⟩ : ∃ ok, ok = okR (G.map lnks) H.lex.entries.length al := ⟨_, rfl⟩
    refine QCall.of ?_
    refine fcalls (F := Tryz.f109) c109 rfl rfl rfl mixed rfl fun X => ?_
    conv => whnf
    refine ⟨fun hc => ?_, fun hc => ?_⟩
    case refine_1 =>
      rw [decide_eq_true_eq] at hc
      omega
    conv => whnf
    skip
    refine tloop rfl mixed [0, 1, 2, 3, 5, 16] [] (fun m r h => ∃ (i : Nat), r = [(0, [], .iptr (encWld H G)), (1, [], .sl 1 none (ints al)), (2, [], .sl 1 none (ints op)), (3, [], .sl 1 none (ints begun)), (5, [], .int .i64 (n + 1 : Nat)), (16, [], .int .i64 i)] ∧ h = [] ∧ m = op.length - i ∧ i ≤ op.length ∧ pickM (okR (G.map lnks) H.lex.entries.length al) begun (op.drop a) (n + 1) = pickM (okR (G.map lnks) H.lex.entries.length al) begun (op.drop i) (n + 1)) ?_ ?_
    · conv => whnf
      exact ⟨_, _, Turn.refl _ _, _, a, rfl, rfl, rfl, h2, rfl⟩
    · rintro m r h' ⟨i, rfl, rfl, rfl, hi, hp⟩
      conv => whnf
      repeat (refine ⟨gP_of ⟨by omega, by omega⟩, ?_⟩; conv => whnf)
      refine ⟨fun hi2 => ?_, fun hi2 => ?_⟩
      · have hi2 : (i : Int) + (n + 1 : Nat) ≤ (ints op).length := by simpa using hi2
        rw [ints_length] at hi2
        obtain ⟨x, hx⟩ := get_lt (l := op) (i := i) (by omega)
        rw [drop_cons hx, pickM] at hp
        have ih' := ih (i + 1) (begun ++ [x]) (by simp; omega) (by omega)
        rw [show ((i + 1 : Nat) : Int) = (i : Int) + 1 by omega, show ((n : Nat) : Int) = ((n + 1 : Nat) : Int) - 1 by omega] at ih'
        have hfl : (ints begun ++ [[AV.int .i64 x]]).length ≤ AMAX := by rw [List.length_append, ints_length]; simp; unfold AMAX; omega
        conv => whnf
        repeat ((first | refine ⟨gP_of ⟨by omega, by omega⟩, ?_⟩ | refine ix (by assumption) ?_ | (refine ⟨(by rw [ints_length]; unfold AMAX; omega), fun q1 => ?_⟩) | (refine ⟨hfl, fun q3 => ⟨_, .here _, ?_⟩⟩)
                       | (refine gcall (QCall.args ih' (.cons (VLe.refl _) (.cons (VLe.refl _) (.cons (VLe.refl _) (.cons clV (.cons (VLe.refl _) (.cons (VLe.refl _) .nil))))))) ?_)
                       | refine And.intro (by show drawOK (opsAt Tryz.f109 _) _ = true; decide +kernel) ?_); conv => whnf)
        refine ⟨fun hq => ?_, fun hq => ?_⟩
        · obtain ⟨p, hpp⟩ := Option.isSome_iff_exists.1 hq
          rw [hpp] at hp
          simp only at hp
          rw [pickL_some hpp, pickL, hp]
          conv => whnf
          skip
          exact VLe.refl _
        · have hpn := Option.isSome_eq_false_iff.1 hq
          rw [Option.isNone_iff_eq_none] at hpn
          rw [hpn] at hp
          simp only at hp
          conv => whnf
          repeat (refine ⟨gP_of ⟨by omega, by omega⟩, ?_⟩; conv => whnf)
          exact ⟨_, _, Turn.sub (by simp) (by simp [keys]), _, (by omega), i + 1, rfl, rfl, rfl, by omega, hp⟩
      · have hi2 : ¬ (i : Int) + (n + 1 : Nat) ≤ (ints op).length := by simpa using hi2
        rw [ints_length] at hi2
        rw [pickM_short (op.drop i) (n + 1) begun (by simp; omega)] at hp
        rw [pickL, hp]
        conv => whnf
        skip
        exact VLe.tup (.cons (VLe.nil (by decide)) (.cons (VLe.refl _) .nil))
end Go.Abs.Wall.Lst

