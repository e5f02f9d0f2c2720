/- What is proved: small laws for the walks of this seat, and contracts of its functions. No condition but those each theorem names. -/
import Derived.Test.YthkokengobdgcaaGreatN21
import Derived.Test.YthkokengobdgcaaGreatN6
import Derived.Test.YthkokengobdgcaaGreatN22
import Derived.Test.YthkokengobdgcaaGreatN23
set_option maxRecDepth 100000
set_option maxHeartbeats 2000000
set_option linter.unusedVariables false
set_option linter.unusedSimpArgs false
namespace Go.Abs.Wall
open Go Go.Abs Go.Proofs
/-! ### entries that are proposed (no program in sight) -/
def entP (root cls : List UInt8) : Ent := ⟨root, 1, cls, 1⟩
def hasE (E : List Ent) (root cls : List UInt8) : Bool := E.any fun e => decide (e.root = root) && decide (e.cls = cls)
def addE (E : List Ent) (root cls : List UInt8) : List Ent := if hasE E root cls = true then E else E ++ [entP root cls]
/-- the entries of a stretch, behind a root -/
def strM (tx : Int → List (List UInt8)) (cls : List UInt8) : List Int → List Ent → List UInt8 → List Ent
  | [], E, root => if 200 < E.length ∨ 8 < root.length then E else addE E root cls
  | s :: t, E, root => if 200 < E.length ∨ 8 < root.length then E else (tx s).foldl (fun E x => strM tx cls t E (root ++ x)) E
/-- all ways to take a sound of each sign -/
def chs (tx : Int → List (List UInt8)) : List Int → List (List UInt8)
  | [] => [[]]
  | s :: t => (tx s).flatMap fun x => (chs tx t).map (x ++ ·)
theorem hasE_iff {E : List Ent} {root cls : List UInt8} : hasE E root cls = true ↔ ∃ e ∈ E, e.root = root ∧ e.cls = cls := by
  unfold hasE
  rw [List.any_eq_true]
  simp
/-- what is there: proposed entries, each once -/
structure PropOK (E : List Ent) : Prop where
  form : ∀ e ∈ E, e = entP e.root e.cls
  once : E.Nodup
theorem addE_mem {E : List Ent} (hE : PropOK E) {root cls : List UInt8} {e : Ent} : e ∈ addE E root cls ↔ e ∈ E ∨ e = entP root cls := by
  unfold addE
  split
  · rename_i h
    obtain ⟨z, hz, h1, h2⟩ := hasE_iff.1 h
    have hf := hE.form z hz
    rw [h1, h2] at hf
    constructor
    · exact .inl
    · rintro (h | rfl)
      · exact h
      · rw [← hf]; exact hz
  · rw [List.mem_append, List.mem_singleton]
theorem addE_ok {E : List Ent} (hE : PropOK E) {root cls : List UInt8} : PropOK (addE E root cls) := by
  refine ⟨fun e he => ?_, ?_⟩
  · rcases (addE_mem hE).1 he with h | rfl
    · exact hE.form e h
    · rfl
  · unfold addE
    split
    · exact hE.once
    · rename_i h
      refine List.nodup_append.2 ⟨hE.once, by simp, ?_⟩
      intro a ha b hb e
      rw [List.mem_singleton] at hb
      subst hb
      subst e
      exact h (hasE_iff.2 ⟨_, ha, rfl, rfl⟩)
theorem addE_len {E : List Ent} {root cls : List UInt8} : (addE E root cls).length ≤ E.length + 1 := by
  unfold addE
  split
  · omega
  · simp
/-- from one list of proposals to a later one, by some candidates -/
structure Grow (cand : Ent → Prop) (E E' : List Ent) : Prop where
  ok : PropOK E → PropOK E'
  le : ∀ e ∈ E, e ∈ E'
  len : E.length ≤ E'.length ∧ (E.length ≤ 201 → E'.length ≤ 201)
  sub : PropOK E → ∀ e ∈ E', e ∈ E ∨ cand e
  all : PropOK E → E'.length ≤ 200 → ∀ e, cand e → e ∈ E'
theorem Grow.same (E : List Ent) : Grow (fun _ => False) E E := ⟨id, fun _ h => h, ⟨Nat.le_refl _, id⟩, fun _ _ h => .inl h, fun _ _ _ h => h.elim⟩
theorem Grow.stop {cand : Ent → Prop} {E : List Ent} (h : 200 < E.length) : Grow cand E E := ⟨id, fun _ h => h, ⟨Nat.le_refl _, id⟩, fun _ _ h => .inl h, fun _ h2 => by omega⟩
theorem Grow.trans {c1 c2 : Ent → Prop} {E E1 E2 : List Ent} (a : Grow c1 E E1) (b : Grow c2 E1 E2) : Grow (fun e => c1 e ∨ c2 e) E E2 := by
  have h1 := a.len; have h2 := b.len
  refine ⟨fun h => b.ok (a.ok h), fun e h => b.le e (a.le e h), ⟨by omega, fun h => h2.2 (h1.2 h)⟩, fun h e he => ?_, fun h hl e he => ?_⟩
  · rcases b.sub (a.ok h) e he with h3 | h3
    · rcases a.sub h e h3 with h4 | h4
      · exact .inl h4
      · exact .inr (.inl h4)
    · exact .inr (.inr h3)
  · rcases he with he | he
    · exact b.le e (a.all h (by omega) e he)
    · exact b.all (a.ok h) hl e he
theorem Grow.congr {c1 c2 : Ent → Prop} {E E' : List Ent} (a : Grow c1 E E') (h : ∀ e, c1 e ↔ c2 e) : Grow c2 E E' :=
  ⟨a.ok, a.le, a.len, fun h1 e he => (a.sub h1 e he).imp id (h e).1, fun h1 hl e he => a.all h1 hl e ((h e).2 he)⟩
theorem Grow.fold {β : Type} {f : List Ent → β → List Ent} {cand : β → Ent → Prop} (h : ∀ E b, Grow (cand b) E (f E b)) : ∀ (l : List β) (E : List Ent), Grow (fun e => ∃ b ∈ l, cand b e) E (l.foldl f E)
  | [], E => (Grow.same E).congr fun e => by simp
  | b :: l, E => ((h E b).trans (Grow.fold h l (f E b))).congr fun e => by simp
def candS (tx : Int → List (List UInt8)) (cls : List UInt8) (st : List Int) (root : List UInt8) (e : Ent) : Prop := ∃ c ∈ chs tx st, (root ++ c).length ≤ 8 ∧ e = entP (root ++ c) cls
theorem strM_grow (tx : Int → List (List UInt8)) (cls : List UInt8) : ∀ (st : List Int) (E : List Ent) (root : List UInt8), Grow (candS tx cls st root) E (strM tx cls st E root)
  | [], E, root => by
    unfold strM
    split
    · rename_i h
      by_cases h2 : 200 < E.length
      · exact Grow.stop h2
      · refine (Grow.same E).congr fun e => ?_
        unfold candS chs
        simp
        intro h3; omega
    · rename_i h
      have hl := addE_len (E := E) (root := root) (cls := cls)
      have hl2 : E.length ≤ (addE E root cls).length := by unfold addE; split <;> simp
      refine ⟨fun h => addE_ok h, fun e he => ?_, ⟨hl2, fun _ => by omega⟩, fun hE e he => ?_, fun hE hle e he => ?_⟩
      · unfold addE
        split
        · exact he
        · exact List.mem_append_left _ he
      · rcases (addE_mem hE).1 he with h1 | h1
        · exact .inl h1
        · exact .inr ⟨[], by simp [chs], by simp; omega, by rw [List.append_nil]; exact h1⟩
      · obtain ⟨c, hc, _, h2⟩ := he
        unfold chs at hc
        rw [List.mem_singleton] at hc
        subst hc
        rw [List.append_nil] at h2
        exact (addE_mem hE).2 (.inr h2)
  | s :: t, E, root => by
    unfold strM
    split
    · rename_i h
      by_cases h2 : 200 < E.length
      · exact Grow.stop h2
      · refine (Grow.same E).congr fun e => ?_
        unfold candS
        constructor
        · exact False.elim
        · rintro ⟨c, _, h3, _⟩
          rw [List.length_append] at h3
          omega
    · refine (Grow.fold (fun E x => strM_grow tx cls t E (root ++ x)) (tx s) E).congr fun e => ?_
      unfold candS
      constructor
      · rintro ⟨x, hx, c, hc, h1, h2⟩
        exact ⟨x ++ c, by rw [chs, List.mem_flatMap]; exact ⟨x, hx, List.mem_map_of_mem hc⟩, by rw [← List.append_assoc]; exact h1, by rw [← List.append_assoc]; exact h2⟩
      · rintro ⟨c, hc, h1, h2⟩
        rw [chs, List.mem_flatMap] at hc
        obtain ⟨x, hx, hc⟩ := hc
        obtain ⟨d, hd, rfl⟩ := List.mem_map.1 hc
        exact ⟨x, hx, d, hd, by rw [List.append_assoc]; exact h1, by rw [List.append_assoc]; exact h2⟩
/-! the order of proposals -/
def entC (a b : Ent) : Int := orI [cmpS a.root b.root, cmpS a.cls b.cls]
theorem entC_eq (a b : Ent) : entC a b = lexC cmpS cmpS (a.root, a.cls) (b.root, b.cls) := by
  unfold entC lexC
  rw [orI2]
theorem zEC : OrdZ (lexC cmpS cmpS) := OrdZ.lexC zS zS
theorem entC_w : OrdW entC := ⟨fun x => by rw [entC_eq]; exact zEC.c.irr _, fun x y z => by rw [entC_eq, entC_eq, entC_eq]; exact zEC.c.tr _ _ _, fun x y z => by rw [entC_eq, entC_eq, entC_eq]; exact zEC.c.nt _ _ _⟩
theorem entC_lt_trans {x y z : Ent} (h1 : entC x y < 0) (h2 : entC y z < 0) : entC x z < 0 := entC_w.tr x y z h1 h2
/-- strictly in order: one list alone -/
theorem upE_unique : ∀ {a b : List Ent}, a.Pairwise (fun x y => entC x y < 0) → b.Pairwise (fun x y => entC x y < 0) → (∀ x, x ∈ a ↔ x ∈ b) → a = b
  | [], [], _, _, _ => rfl
  | [], y :: b, _, _, h => absurd ((h y).2 (List.mem_cons_self ..)) (by simp)
  | x :: a, [], _, _, h => absurd ((h x).1 (List.mem_cons_self ..)) (by simp)
  | x :: a, y :: b, ha, hb, h => by
    rw [List.pairwise_cons] at ha hb
    have h1 := (h x).1 (List.mem_cons_self ..)
    have h2 := (h y).2 (List.mem_cons_self ..)
    have hxy : x = y := by
      rcases List.mem_cons.1 h1 with e | h1
      · exact e
      rcases List.mem_cons.1 h2 with e | h2
      · exact e.symm
      exact absurd (entC_lt_trans (hb.1 x h1) (ha.1 y h2)) (entC_w.irr _)
    subst hxy
    rw [upE_unique ha.2 hb.2 fun z => ⟨fun hz => ?_, fun hz => ?_⟩]
    · rcases List.mem_cons.1 ((h z).1 (List.mem_cons_of_mem _ hz)) with e | h3
      · exact absurd (ha.1 z hz) (by rw [e]; exact entC_w.irr _)
      · exact h3
    · rcases List.mem_cons.1 ((h z).2 (List.mem_cons_of_mem _ hz)) with e | h3
      · exact absurd (hb.1 z hz) (by rw [e]; exact entC_w.irr _)
      · exact h3
theorem entC_ne {x y : Ent} (hx : x = entP x.root x.cls) (hy : y = entP y.root y.cls) (hne : x ≠ y) : entC x y < 0 ∨ entC y x < 0 := by
  have hz : ¬ entC x y = 0 := by
    intro h
    rw [entC_eq, zEC.zero] at h
    simp only [Prod.mk.injEq] at h
    apply hne
    rw [hx, hy, h.1, h.2]
  by_cases h : entC x y < 0
  · exact .inl h
  · right
    rw [entC_eq] at h hz ⊢
    rw [zEC.sgn]
    omega
theorem sortE_up {E : List Ent} (hE : PropOK E) : (sortL entC E).Pairwise fun x y => entC x y < 0 := by
  have h1 := entC_w.sorted E
  have h2 : (sortL entC E).Nodup := (sortL_perm.nodup_iff).2 hE.once
  have h3 : ∀ e ∈ sortL entC E, e = entP e.root e.cls := fun e he => hE.form e (sortL_mem.1 he)
  refine List.Pairwise.imp_of_mem ?_ (h1.and h2)
  rintro x y hx hy ⟨h4, h5⟩
  rcases entC_ne (h3 x hx) (h3 y hy) h5 with h | h
  · exact h
  · exact absurd h h4
/-! the specification: put in order -/
structure UpOK (l : List Ent) : Prop where
  form : ∀ e ∈ l, e = entP e.root e.cls
  up : l.Pairwise fun x y => entC x y < 0
/-- both come to the same: if there are few -/
theorem prop_same {E l : List Ent} (hE : PropOK E) (hl : UpOK l) (h : ∀ e, e ∈ E ↔ e ∈ l) : sortL entC E = l :=
  upE_unique (sortE_up hE) hl.up fun x => by rw [sortL_mem, h]
theorem UpOK.nodup {l : List Ent} (hl : UpOK l) : l.Nodup := hl.up.imp fun {a b} h e => absurd h (by rw [e]; exact entC_w.irr _)
theorem prop_len {E l : List Ent} (hE : PropOK E) (hl : UpOK l) (h : ∀ e ∈ E, e ∈ l) : E.length ≤ l.length := nodup_sub_len hE.once h
theorem prop_len2 {E l : List Ent} (hE : PropOK E) (hl : UpOK l) (h : ∀ e ∈ l, e ∈ E) : l.length ≤ E.length := nodup_sub_len hl.nodup h
end Go.Abs.Wall
set_option maxRecDepth 100000
set_option maxHeartbeats 2000000
set_option linter.unusedVariables false
set_option linter.unusedSimpArgs false
namespace Go.Abs.Wall.Lst
open Go Go.Abs Go.Proofs Go.Abs.Wall
/-! ### the program's Propose: texts and stretches -/
def useV (kind per : Int) (v : Val) : Bool := decide (v.kind = kind) && wthn per v.fr v.to
def txM (l : Lst) (per kind s : Int) : List (List UInt8) := (((l.signs.getD s.toNat ⟨[], 0, 0, false, []⟩).values.filter (useV kind per)).map (·.text))
def encTx (t : List UInt8) : List AV := [.str t]
def keyB (root cls : List UInt8) : List UInt8 := (root ++ [32]) ++ cls
def seenP (E : List Ent) : List (List UInt8 × Int) := E.map fun e => (keyB e.root e.cls, 1)
def mapS (E : List Ent) : Ob := .map (encA AV.str (AV.int .i64) (seenP E))
def PV (l : Lst) (per : Int) (mb : Nat) (ev : AV) : List AV := [.int .i64 l.periods, .sl 5 none (l.signs.map encSgn), .int .i64 per, .omap mb, ev]
def NoSp (s : List UInt8) : Prop := (32 : UInt8) ∉ s
theorem key_inj : ∀ {r r' c c' : List UInt8}, NoSp r → NoSp r' → keyB r c = keyB r' c' → r = r' ∧ c = c'
  | [], [], c, c', _, _, h => by
    unfold keyB at h
    simpa using h
  | [], y :: r', c, c', _, h2, h => by
    unfold keyB at h
    simp at h
    exact absurd (by rw [← h.1]; exact List.mem_cons_self ..) h2
  | x :: r, [], c, c', h1, _, h => by
    unfold keyB at h
    simp at h
    exact absurd (by rw [h.1]; exact List.mem_cons_self ..) h1
  | x :: r, y :: r', c, c', h1, h2, h => by
    unfold keyB at h
    simp only [List.cons_append, List.cons.injEq] at h
    obtain ⟨e1, e2⟩ := key_inj (r := r) (r' := r') (fun hm => h1 (List.mem_cons_of_mem _ hm)) (fun hm => h2 (List.mem_cons_of_mem _ hm)) h.2
    rw [h.1, e1]
    exact ⟨rfl, e2⟩
theorem seen_look {root cls : List UInt8} (hr : NoSp root) : ∀ {E : List Ent}, (∀ e ∈ E, NoSp e.root) → (lookA (keyB root cls) (seenP E)).getD 0 = if hasE E root cls = true then 1 else 0
  | [], _ => rfl
  | e :: E, h => by
    have ih := seen_look (cls := cls) hr (E := E) fun e he => h e (List.mem_cons_of_mem _ he)
    have he := h e (List.mem_cons_self ..)
    unfold seenP at ih ⊢
    rw [List.map_cons, lookA]
    unfold hasE at ih ⊢
    rw [List.any_cons]
    by_cases hk : keyB root cls = keyB e.root e.cls
    · obtain ⟨h1, h2⟩ := key_inj hr he hk
      rw [if_pos hk, if_pos (by simp [h1, h2])]
      rfl
    · rw [if_neg hk, ih]
      have : (decide (e.root = root) && decide (e.cls = cls)) = false := by
        rw [Bool.eq_false_iff, ne_eq, Bool.and_eq_true, decide_eq_true_eq, decide_eq_true_eq]
        rintro ⟨h1, h2⟩
        exact hk (by rw [h1, h2])
      rw [this, Bool.false_or]
theorem seen_set {root cls : List UInt8} (hr : NoSp root) : ∀ {E : List Ent}, (∀ e ∈ E, NoSp e.root) → hasE E root cls = false → setA (keyB root cls) 1 (seenP E) = seenP (E ++ [entP root cls])
  | [], _, _ => rfl
  | e :: E, h, hn => by
    unfold hasE at hn
    rw [List.any_cons, Bool.or_eq_false_iff] at hn
    have ih := seen_set (cls := cls) hr (E := E) (fun e he => h e (List.mem_cons_of_mem _ he)) hn.2
    have he := h e (List.mem_cons_self ..)
    unfold seenP at ih ⊢
    rw [List.map_cons, setA, if_neg, ih]
    · rfl
    · intro hk
      obtain ⟨h1, h2⟩ := key_inj hr he hk
      have := hn.1
      simp [h1, h2] at this
theorem encEnt_len (e : Ent) : (encEnt e).length = 4 := rfl
/-- what a proposal keeps to -/
structure PropH (l : Lst) (per : Int) : Prop where
  many : ∀ s ∈ l.signs, s.values.length ≤ 12
  len : ∀ s ∈ l.signs, ∀ v ∈ s.values, v.text.length ≤ 8
  nosp : ∀ s ∈ l.signs, ∀ v ∈ s.values, NoSp v.text
theorem tx_mem {l : Lst} {per : Int} (h : PropH l per) {kind s : Int} {t : List UInt8} (ht : t ∈ txM l per kind s) : t.length ≤ 8 ∧ NoSp t := by
  unfold txM at ht
  obtain ⟨v, hv, rfl⟩ := List.mem_map.1 ht
  have hv := (List.mem_filter.1 hv).1
  rw [List.getD_eq_getElem?_getD] at hv
  cases hs : l.signs[s.toNat]? with
  | none => rw [hs] at hv; simp at hv
  | some x =>
    rw [hs] at hv
    have hm := List.mem_of_getElem? hs
    exact ⟨h.len x hm v hv, h.nosp x hm v hv⟩
def c87 : Cfg := ⟨[0, 1, 2, 6, 8, 17, 18, 19, 20, 37], [], [8], [], [(4, [0, 1, 2, 3, 4, 5, 6, 7, 8, 9, 10, 11, 12, 13, 14], [])], []⟩
def c88 : Cfg := ⟨[0, 1, 2, 3, 9, 10, 21, 24, 29, 30, 31, 32, 54], [], [], [], [], []⟩
theorem textsA (pb mb : Nat) (l : Lst) (per kind s : Int) (ev : AV) (hl : PropH l per) (hs : 0 ≤ s ∧ s < l.signs.length) :
    QCall Tryz.prog 87 [.optr pb 0, .int .i64 s, .int .i64 kind] [(pb, .vec (PV l per mb ev))] (.sl 1 none ((txM l per kind s).map encTx)) := by
  refine ACalls.cutV ?_
  obtain ⟨x, hx⟩ := get_lt (l := l.signs) (i := s.toNat) (by omega)
  have hv := hl.many x (List.mem_of_getElem? hx)
  have htx : txM l per kind s = ((x.values.filter (useV kind per)).map (·.text)) := by unfold txM; rw [getD_of hx]
  rw [htx]
  unfold PV
  refine fcalls (F := Tryz.f87) c87 rfl rfl rfl mixed rfl fun X => ?_
  conv => whnf
  repeat ((first | (refine ixn s.toNat (by omega) hx ?_) | refine ⟨_, _, .head _, rfl, ?_⟩); conv => whnf)
  refine tloop rfl mixed [0, 2, 6, 17, 18, 19] [] (fun m r h => ∃ (i : Nat) (ov : AV) (oh : Heap), r = [(0, [], .optr pb 0), (2, [], .int .i64 kind), (6, [], ov), (17, [], .sl 4 none (x.values.map encVal)), (18, [], .int .i64 (x.values.map encVal).length), (19, [], .int .i64 i)] ∧ h = oh ++ [(pb, .vec [.int .i64 l.periods, .sl 5 none (l.signs.map encSgn), .int .i64 per, .omap mb, ev])] ∧ m = x.values.length - i ∧ i ≤ x.values.length ∧ Out 1 encTx (((x.values.take i).filter (useV kind per)).map (·.text)) ov oh) ?_ ?_
  · conv => whnf
    exact ⟨_, _, Turn.refl _ _, _, 0, .nilS, [], rfl, rfl, rfl, by omega, .inl ⟨rfl, rfl, rfl⟩⟩
  · rintro m r h' ⟨i, ov, oh, rfl, rfl, rfl, hi, ho⟩
    have hol : (((x.values.take i).filter (useV kind per)).map (·.text)).length ≤ 12 := by
      rw [List.length_map]
      have := List.length_filter_le (useV kind per) (x.values.take i)
      rw [List.length_take] at this
      omega
    conv => whnf
    refine ⟨fun hi2 => ?_, fun hi2 => ?_⟩ <;> simp at hi2
    · obtain ⟨v, hv2⟩ := get_lt hi2
      have hsn : (((x.values.take (i + 1)).filter (useV kind per)).map (·.text)) = (((x.values.take i).filter (useV kind per)).map (·.text)) ++ (if useV kind per v = true then [v.text] else []) := by
        rw [take_snoc hv2, List.filter_append, List.map_append, List.filter_cons]
        split <;> rfl
      rcases ho with ⟨he, rfl, rfl⟩ | ⟨q, rfl, rfl⟩
      all_goals
        conv => whnf
        repeat ((first | refine ix (by assumption) ?_ | (intro (b9 : Nat)) | refine gcall (iwithin _ _ _) ?_ | refine ⟨_, _, Rem.here _, ⟨Nat.le_of_ble_eq_true rfl, rfl⟩, ?_⟩
                       | refine ⟨_, _, .head _, rfl, ?_⟩ | refine ⟨_, _, .tail _ (.head _), rfl, ?_⟩ | refine And.intro (by show drawOK (opsAt Tryz.f87 _) _ = true; decide +kernel) ?_); conv => whnf)
        refine ⟨fun hq => ?_, fun hq => ?_⟩
        · have hq : useV kind per v = true := hq
          rw [if_pos hq] at hsn
          conv => whnf
          repeat ((first | refine ⟨gP_of ⟨by omega, by omega⟩, ?_⟩ | (refine ⟨Nat.le_of_ble_eq_true rfl, fun q' => ?_⟩) | (refine ⟨(by rw [List.length_append, List.length_map]; simp at hol ⊢; unfold AMAX; omega), fun q' => ⟨_, .here _, ?_⟩⟩)); conv => whnf)
          refine ⟨_, _, Turn.refl _ _, _, (by omega), i + 1, _, [(q', .tok)], rfl, rfl, rfl, by omega, .inr ⟨q', ?_, rfl⟩⟩
          rw [hsn, List.map_append]
          first | done | rfl | (rw [he]; done) | (rw [he]; rfl)
        · have hq : useV kind per v = false := hq
          rw [if_neg (by rw [hq]; decide), List.append_nil] at hsn
          conv => whnf
          repeat (refine ⟨gP_of ⟨by omega, by omega⟩, ?_⟩; conv => whnf)
          refine ⟨_, _, Turn.refl _ _, _, (by omega), i + 1, _, _, rfl, rfl, rfl, by omega, ?_⟩
          rw [hsn]
          first | exact .inl ⟨he, rfl, rfl⟩ | exact .inr ⟨q, rfl, rfl⟩
    · rw [List.take_of_length_le hi2] at ho
      conv => whnf
      skip
      exact ⟨ho.le (by decide), oh, rfl⟩
def SPH (l : Lst) (per : Int) (pb mb : Nat) (E : List Ent) (ev : AV) (eh : Heap) : Heap := (pb, .vec (PV l per mb ev)) :: (mb, mapS E) :: eh
/-- the proposals so far -/
structure EntsH (E : List Ent) : Prop where
  few : E.length ≤ 201
  nosp : ∀ e ∈ E, NoSp e.root
theorem EntsH.add {E : List Ent} (h : EntsH E) (hl : E.length ≤ 200) {root cls : List UInt8} (hr : NoSp root) : EntsH (addE E root cls) := by
  refine ⟨by have := addE_len (E := E) (root := root) (cls := cls); omega, fun e he => ?_⟩
  unfold addE at he
  split at he
  · exact h.nosp e he
  · rcases List.mem_append.1 he with he | he
    · exact h.nosp e he
    · rw [List.mem_singleton] at he
      subst he
      exact hr
theorem EntsH.str {l : Lst} {per : Int} (hl : PropH l per) (cls : List UInt8) : ∀ (st : List Int) (E : List Ent) (root : List UInt8), EntsH E → NoSp root → EntsH (strM (txM l per 1) cls st E root)
  | [], E, root, h, hr => by
    unfold strM
    split
    · exact h
    · exact h.add (by omega) hr
  | s :: t, E, root, h, hr => by
    unfold strM
    split
    · exact h
    · have : ∀ (L : List (List UInt8)) (E : List Ent), (∀ x ∈ L, NoSp x) → EntsH E → EntsH (L.foldl (fun E x => strM (txM l per 1) cls t E (root ++ x)) E) := by
        intro L
        induction L with
        | nil => intro E _ h; exact h
        | cons x L ih =>
          intro E hx h
          rw [List.foldl_cons]
          refine ih _ (fun y hy => hx y (List.mem_cons_of_mem _ hy)) (EntsH.str hl cls t E (root ++ x) h fun hm => ?_)
          rcases List.mem_append.1 hm with hm | hm
          · exact hr hm
          · exact hx x (List.mem_cons_self ..) hm
      exact this _ E (fun x hx => (tx_mem hl hx).2) h
theorem strA (pb mb : Nat) (l : Lst) (per : Int) (cls : List UInt8) (hl : PropH l per) (hcl : cls.length ≤ 8) : ∀ (st : List Int) (E : List Ent) (root : List UInt8) (ev : AV) (eh : Heap), (∀ s ∈ st, 0 ≤ s ∧ s < l.signs.length) → st.length ≤ 60 →
    root.length ≤ 16 → NoSp root → EntsH E → Row 4 encEnt E ev eh →
    ACalls Tryz.prog 88 [.optr pb 0, .str root, .sl 1 none (ints st), .str cls] (SPH l per pb mb E ev eh)
      (fun v h' => v = .tup [] ∧ ∃ ev' eh', Row 4 encEnt (strM (txM l per 1) cls st E root) ev' eh' ∧ h'.Perm (SPH l per pb mb (strM (txM l per 1) cls st E root) ev' eh'))
  | [], E, root, ev, eh, hst, hsl, hrl, hrn, hE, hr => by
    have hfew := hE.few
    have hlk : (lookA ((root ++ [32]) ++ cls) (seenP E)).getD 0 = if hasE E root cls = true then 1 else 0 := seen_look (cls := cls) hrn hE.nosp
    have ha1 : (root ++ [32]).length ≤ LMAX := by simp; unfold LMAX; omega
    have ha2 : ((root ++ [32]) ++ cls).length ≤ LMAX := by simp; unfold LMAX; omega
    unfold SPH PV mapS strM
    by_cases hs : 200 < E.length ∨ 8 < root.length
    · rw [if_pos hs]
      rcases hr with ⟨rfl, rfl, rfl⟩ | ⟨hne, b, rfl, rfl⟩
      · refine fcalls (F := Tryz.f88) c88 rfl rfl rfl mixed rfl fun X => ?_
        conv => whnf
        repeat (refine ⟨_, _, .head _, rfl, ?_⟩; conv => whnf)
        refine cT (by simp at hs ⊢; omega) ?_
        conv => whnf
        exact ⟨rfl, _, _, .inl ⟨rfl, rfl, rfl⟩, List.Perm.refl _⟩
      · refine fcalls (F := Tryz.f88) c88 rfl rfl rfl mixed rfl fun X => ?_
        conv => whnf
        repeat (refine ⟨_, _, .head _, rfl, ?_⟩; conv => whnf)
        refine cT (by simp; omega) ?_
        conv => whnf
        exact ⟨rfl, _, _, .inr ⟨hne, b, rfl, rfl⟩, List.Perm.refl _⟩
    rw [if_neg hs]
    unfold addE
    by_cases hh : hasE E root cls = true
    · rw [if_pos hh] at hlk
      rw [if_pos hh]
      rcases hr with ⟨rfl, rfl, rfl⟩ | ⟨hne, b, rfl, rfl⟩
      · cases hh
      · refine fcalls (F := Tryz.f88) c88 rfl rfl rfl mixed rfl fun X => ?_
        conv => whnf
        repeat (refine ⟨_, _, .head _, rfl, ?_⟩; conv => whnf)
        refine cF (by simp; omega) ?_
        conv => whnf
        skip
        refine cF rfl ?_
        conv => whnf
        repeat ((first | (refine ⟨gP_of ha1, ?_⟩) | (refine ⟨gP_of ha2, ?_⟩) | (refine lkI (.tail _ (.head _)) eqStr plainStr ?_) | refine ⟨_, _, .head _, rfl, ?_⟩); conv => whnf)
        refine cF (by rw [decide_eq_false_iff_not]; intro h; have := hlk.symm.trans h; cases this) ?_
        conv => whnf
        exact ⟨rfl, _, _, .inr ⟨hne, b, rfl, rfl⟩, List.Perm.refl _⟩
    · rw [if_neg hh] at hlk
      rw [if_neg hh]
      have hset : setA ((root ++ [32]) ++ cls) 1 (seenP E) = seenP (E ++ [entP root cls]) := seen_set (cls := cls) hrn hE.nosp (by simpa using hh)
      rcases hr with ⟨rfl, rfl, rfl⟩ | ⟨hne, b, rfl, rfl⟩
      · refine fcalls (F := Tryz.f88) c88 rfl rfl rfl mixed rfl fun X => ?_
        conv => whnf
        repeat (refine ⟨_, _, .head _, rfl, ?_⟩; conv => whnf)
        refine cF (by simp at hs ⊢; omega) ?_
        conv => whnf
        skip
        refine cF rfl ?_
        conv => whnf
        repeat ((first | (refine ⟨gP_of ha1, ?_⟩) | (refine ⟨gP_of ha2, ?_⟩) | (refine lkI (.tail _ (.head _)) eqStr plainStr ?_) | refine ⟨_, _, .head _, rfl, ?_⟩); conv => whnf)
        refine cT (by rw [decide_eq_true_eq]; exact hlk) ?_
        conv => whnf
        repeat ((first | (refine upA eqStr plainStr (.there (.here _)) ?_) | (refine ⟨⟨Nat.le_of_ble_eq_true rfl, Nat.le_of_ble_eq_true rfl⟩, fun b' => ?_⟩) | refine ⟨_, _, .head _, rfl, ?_⟩
                       | refine ⟨_, _, .there (.here _), leOK, ?_⟩); conv => whnf)
        refine ⟨rfl, _, [(b', _)], .inr ⟨by simp, b', rfl, rfl⟩, ?_⟩
        exact List.perm_append_comm (l₁ := [_]) (l₂ := [_, _])
      · refine fcalls (F := Tryz.f88) c88 rfl rfl rfl mixed rfl fun X => ?_
        conv => whnf
        repeat (refine ⟨_, _, .head _, rfl, ?_⟩; conv => whnf)
        refine cF (by simp; omega) ?_
        conv => whnf
        skip
        refine cF rfl ?_
        conv => whnf
        repeat ((first | (refine ⟨gP_of ha1, ?_⟩) | (refine ⟨gP_of ha2, ?_⟩) | (refine lkI (.tail _ (.head _)) eqStr plainStr ?_) | refine ⟨_, _, .head _, rfl, ?_⟩); conv => whnf)
        refine cT (by rw [decide_eq_true_eq]; exact hlk) ?_
        conv => whnf
        repeat ((first | (refine upA eqStr plainStr (.there (.here _)) ?_) | (refine ⟨_, .tail _ (.tail _ (.head _)), ⟨enc_len encEnt_len, by unfold AMAX; simp only [List.length_cons, List.length_nil]; omega⟩, fun b' => ⟨_, .there (.there (.here _)), ?_⟩⟩)
                       | refine ⟨_, _, .head _, rfl, ?_⟩ | refine ⟨_, _, .here _, leOK, ?_⟩); conv => whnf)
        rw [hset]
        refine ⟨rfl, _, [(b', _)], .inr ⟨by simp, b', ?_, ?_⟩, List.Perm.refl _⟩
        · rw [List.length_append]; rfl
        · rw [List.map_append, List.flatten_append]; rfl
  | s :: t, E, root, ev, eh, hst, hsl, hrl, hrn, hE, hr => by
    have hfew := hE.few
    have hs0 := hst s (List.mem_cons_self ..)
    simp only [List.length_cons] at hsl
    unfold SPH PV mapS strM
    by_cases hs : 200 < E.length ∨ 8 < root.length
    · rw [if_pos hs]
      rcases hr with ⟨rfl, rfl, rfl⟩ | ⟨hne, b, rfl, rfl⟩
      · refine fcalls (F := Tryz.f88) c88 rfl rfl rfl mixed rfl fun X => ?_
        conv => whnf
        repeat (refine ⟨_, _, .head _, rfl, ?_⟩; conv => whnf)
        refine cT (by simp at hs ⊢; omega) ?_
        conv => whnf
        exact ⟨rfl, _, _, .inl ⟨rfl, rfl, rfl⟩, List.Perm.refl _⟩
      · refine fcalls (F := Tryz.f88) c88 rfl rfl rfl mixed rfl fun X => ?_
        conv => whnf
        repeat (refine ⟨_, _, .head _, rfl, ?_⟩; conv => whnf)
        refine cT (by simp; omega) ?_
        conv => whnf
        exact ⟨rfl, _, _, .inr ⟨hne, b, rfl, rfl⟩, List.Perm.refl _⟩
    rw [if_neg hs]
    have htx := textsA pb mb l per 1 s ev hl hs0
    have htl : ∀ x ∈ txM l per 1 s, x.length ≤ 8 ∧ NoSp x := fun x hx => tx_mem hl hx
    have htn : (txM l per 1 s).length ≤ 12 := by
      unfold txM
      rw [List.length_map]
      refine Nat.le_trans (List.length_filter_le _ _) ?_
      obtain ⟨x, hx⟩ := get_lt (l := l.signs) (i := s.toNat) (by omega)
      rw [getD_of hx]
      exact hl.many x (List.mem_of_getElem? hx)
    obtain ⟨TX, hTX⟩ : ∃ TX, TX = txM l per 1 s := ⟨_, rfl⟩
    obtain ⟨f, hf⟩ : ∃ f : List Ent → List UInt8 → List Ent, f = fun E x => strM (txM l per 1) cls t E (root ++ x) := ⟨_, rfl⟩
    rw [← hTX] at htx htl htn
    rw [← hTX, ← hf]
    have hrow := hr
    unfold PV at htx
    have hsl2 : (ints (s :: t)).take (((ints (s :: t)).length : Int)).toNat = ints (s :: t) := by rw [Int.toNat_natCast, List.take_length]
    rcases hr with ⟨he, rfl, rfl⟩ | ⟨hne, b, rfl, rfl⟩
    all_goals
      refine fcalls (F := Tryz.f88) c88 rfl rfl rfl mixed rfl fun X => ?_
      conv => whnf
      repeat (refine ⟨_, _, .head _, rfl, ?_⟩; conv => whnf)
      refine cF (by first | (simp at hs ⊢; omega) | (simp [he] at hs ⊢; omega)) ?_
      conv => whnf
      skip
      refine cT (by simp [ints]) ?_
      conv => whnf
      repeat ((first | (refine ixn (enc := fun n => [AV.int .i64 n]) (x := s) 0 rfl rfl ?_) | (refine QCall.k (QCall.perm htx (h2 := _) (List.Perm.refl _)) ?_)); conv => whnf)
      refine tloop rfl mixed [0, 1, 2, 3, 29, 30, 31] [] (fun m r h => ∃ (i : Nat) (E2 : List Ent) (ev2 : AV) (eh2 : Heap), r = [(0, [], .optr pb 0), (1, [], .str root), (2, [], .sl 1 none (ints (s :: t))), (3, [], .str cls), (29, [], .sl 1 none (TX.map encTx)), (30, [], .int .i64 (TX.map encTx).length), (31, [], .int .i64 i)] ∧ h = SPH l per pb mb E2 ev2 eh2 ∧ m = TX.length - i ∧ i ≤ TX.length ∧ EntsH E2 ∧ Row 4 encEnt E2 ev2 eh2 ∧ TX.foldl f E = (TX.drop i).foldl f E2) ?_ ?_
      · conv => whnf
        exact ⟨_, _, Turn.refl _ _, _, 0, E, _, _, rfl, rfl, rfl, by omega, hE, hrow, rfl⟩
      · rintro m r h' ⟨i, E2, ev2, eh2, rfl, rfl, rfl, hi, hE2, hr2, hfo⟩
        conv => whnf
        refine ⟨fun hi2 => ?_, fun hi2 => ?_⟩ <;> simp at hi2
        · obtain ⟨x, hx⟩ := get_lt hi2
          obtain ⟨hx1, hx2⟩ := htl x (List.mem_of_getElem? hx)
          have hrx : NoSp (root ++ x) := fun hm => by rcases List.mem_append.1 hm with hm | hm; exact hrn hm; exact hx2 hm
          have hadd : (root ++ x).length ≤ LMAX := by rw [List.length_append]; unfold LMAX; omega
          have hrec := strA pb mb l per cls hl hcl t E2 (root ++ x) ev2 eh2 (fun y hy => hst y (List.mem_cons_of_mem _ hy)) (by omega) (by rw [List.length_append]; omega) hrx hE2 hr2
          rw [drop_cons hx, List.foldl_cons] at hfo
          have hfx : f E2 x = strM (txM l per 1) cls t E2 (root ++ x) := by rw [hf]
          have hEx := EntsH.str hl cls t E2 (root ++ x) hE2 hrx
          rw [← hfx] at hrec hEx
          conv => whnf
          repeat ((first | refine ix (by assumption) ?_ | (refine ⟨gP_of hadd, ?_⟩) | (refine ⟨gP_of ⟨by omega, by rw [ints_length]; simp; omega, by omega⟩, ?_⟩)); conv => whnf)
          rw [hsl2]
          refine ACalls.mono ?_ hrec
          rintro v h1 ⟨rfl, ev3, eh3, hr3, hperm⟩
          conv => whnf
          repeat (refine ⟨gP_of ⟨by omega, by omega⟩, ?_⟩; conv => whnf)
          exact ⟨_, _, Turn.perm hperm, _, by omega, i + 1, _, ev3, eh3, rfl, rfl, rfl, by omega, hEx, hr3, hfo⟩
        · rw [drop_nil hi2] at hfo
          rw [hfo]
          conv => whnf
          exact ⟨rfl, ev2, eh2, hr2, List.Perm.refl _⟩
end Go.Abs.Wall.Lst
set_option maxRecDepth 100000
set_option maxHeartbeats 2000000
set_option linter.unusedVariables false
set_option linter.unusedSimpArgs false
namespace Go.Abs.Wall.Lst
open Go Go.Abs Go.Proofs Go.Abs.Wall
/-! ### the program's Propose -/
theorem valsErr_all {l : Lst} {vs : List Val} : ∀ {t : List Val} {i : Nat}, valsErr l vs t i = 0 → ∀ v ∈ t, ∃ b, valErr l b v = 0
  | [], _, _, v, hv => by cases hv
  | a :: t, i, h, v, hv => by
    unfold valsErr at h
    split at h
    · rename_i h1; exact absurd h h1
    · rename_i h1
      rcases List.mem_cons.1 hv with rfl | hv
      · exact ⟨_, by simpa using h1⟩
      · exact valsErr_all h v hv
theorem lstGo_all {l : Lst} : ∀ {t : List Sgn} {seen : List (List UInt8)}, lstGo l t seen = 0 → ∀ s ∈ t, sgnErr l s = 0
  | [], _, _, s, hs => by cases hs
  | a :: t, seen, h, s, hs => by
    unfold lstGo at h
    split at h
    · cases h
    split at h
    · rename_i h1; exact absurd h h1
    · rename_i h1
      rcases List.mem_cons.1 hs with rfl | hs
      · simpa using h1
      · exact lstGo_all h s hs
theorem lst_text {l : Lst} (h : lstErr l = 0) {s : Sgn} (hs : s ∈ l.signs) {v : Val} (hv : v ∈ s.values) : textOK v.kind v.text = true := by
  have h1 : lstGo l l.signs [] = 0 := by
    unfold lstErr at h
    split at h
    · cases h
    split at h
    · cases h
    exact h
  have h2 := lstGo_all h1 s hs
  unfold sgnErr at h2
  split at h2
  · cases h2
  split at h2
  · cases h2
  obtain ⟨b, hb⟩ := valsErr_all h2 v hv
  unfold valErr at hb
  split at hb
  · cases hb
  · rename_i h3
    simp only [not_or, Bool.not_eq_false] at h3
    exact h3.2.2
theorem propH_of {l : Lst} {per : Int} (h : lstErr l = 0) : PropH l per := by
  refine ⟨fun s hs => ((lstOK h).each s hs).few, fun s hs v hv => (((lstOK h).each s hs).each v hv).text.2, fun s hs v hv hm => ?_⟩
  have h1 := lst_text h hs hv
  unfold textOK at h1
  simp only [Bool.and_eq_true] at h1
  have h2 := List.all_eq_true.1 h1.2 32 hm
  unfold textCh at h2
  rw [show small 32 = false from rfl, show big 32 = false from rfl] at h2
  simp at h2
/-! sorting entries -/
def decEnt : List AV → Ent
  | [.str a, .int _ b, .str c, .int _ d] => ⟨a, b, c, d⟩
  | _ => ⟨[], 0, [], 0⟩
theorem decEnt_enc (e : Ent) : decEnt (encEnt e) = e := rfl
def c90 : Cfg := ⟨[0, 1, 2, 3, 4], [], [], [], [(1, [0, 1, 2, 3, 4, 5, 6, 7, 8, 9, 10, 11, 12], [])], []⟩
def c89 : Cfg := ⟨[0, 1, 4], [], [], [], [], []⟩
def c137 : Cfg := ⟨[0, 1, 2, 3, 4, 10, 11, 12, 13, 14, 15, 16, 17, 18, 19, 20, 25, 32, 39, 56, 75, 80, 97, 125], [], [], [], [(17, [0, 1, 2, 3, 4, 5, 6, 7, 8, 9, 10, 11, 12, 13, 14, 15, 16], [])], []⟩
def c188 : Cfg := ⟨[0, 1, 2, 3, 8, 9, 14, 34], [], [], [], [(4, [0, 1, 2, 3, 4, 5, 6, 7, 8, 9, 10, 11, 12, 13, 14, 15, 16], []), (6, [0, 1, 2, 3, 4, 5, 6, 7, 8, 9, 10, 11, 12, 13, 14, 15, 16, 17], [])], []⟩
def c86 : Cfg := ⟨[0, 1, 3], [], [], [], [], []⟩
def c136 : Cfg := ⟨[0, 1, 4, 5, 7, 8, 9, 16], [], [], [], [], []⟩
def c85 : Cfg := ⟨[0, 1, 4], [], [], [], [], []⟩
def c36 : Cfg := ⟨[0, 1, 2, 3, 6, 7, 8, 10, 11, 13, 14, 16, 17, 21, 27, 30, 31, 32, 33, 34, 39, 42, 49, 50, 51, 52, 58, 66, 67, 68, 69, 77, 94], [48], [], [], [], []⟩
theorem compareEnt (a b : Ent) : QCall Tryz.prog 90 [.agg (encEnt a), .agg (encEnt b)] [] (.int .i64 (entC a b)) := by
  refine fcalls (F := Tryz.f90) c90 rfl rfl rfl mixed rfl fun X => ?_
  conv => whnf
  repeat ((first | refine gcall (compareS _ _) ?_ | refine gcall (orW [cmpS a.root b.root, cmpS a.cls b.cls] (by simp [LMAX])) ?_ | refine And.intro (by show drawOK (opsAt Tryz.f90 _) _ = true; decide +kernel) ?_); conv => whnf)
  exact ⟨rfl, rfl⟩
theorem sortLawT : SortLaw Tryz.prog 89 90 4 :=
  sortLaw Tryz.sortEnt 4 90 Tryz.isAgg63 Tryz.sizeOf63 (fun args w => run_call ⟨Tryz.f90, _, rfl, rfl, rfl⟩)
theorem insNilT (c : FuncId) : QCall Tryz.prog 188 [.nilS, .int .i64 0, .int .i64 0, .fn c []] [] (.tup []) := by
  refine fcalls (F := Tryz.f188) c188 rfl rfl rfl mixed rfl fun X => ?_
  conv => whnf
  repeat (refine ⟨gP_of ⟨by omega, by omega⟩, ?_⟩; conv => whnf)
  refine sloop rfl mixed [0, 1, 2, 3, 8] [] (fun m r h => r = [(0, [], .nilS), (1, [], .int .i64 0), (2, [], .int .i64 0), (3, [], .fn c []), (8, [], .int .i64 1)] ∧ h = [] ∧ m = 0 ∧ True) ?_ ?_
  · conv => whnf
    exact ⟨_, rfl, rfl, rfl, trivial⟩
  · rintro m r h ⟨rfl, rfl, rfl, _⟩
    conv => whnf
    refine cF rfl ?_
    conv => whnf
    exact ⟨rfl, rfl⟩
theorem pdqNilT (c : FuncId) : QCall Tryz.prog 137 [.nilS, .int .i64 0, .int .i64 0, .int .i64 0, .fn c []] [] (.tup []) := by
  refine fcalls (F := Tryz.f137) c137 rfl rfl rfl mixed rfl fun X => ?_
  conv => whnf
  skip
  refine sloop rfl mixed [0, 1, 2, 3, 4, 10, 11] [] (fun m r h => r = [(0, [], .nilS), (1, [], .int .i64 0), (2, [], .int .i64 0), (3, [], .int .i64 0), (4, [], .fn c []), (10, [], .bool true), (11, [], .bool true)] ∧ h = [] ∧ m = 0 ∧ True) ?_ ?_
  · conv => whnf
    exact ⟨_, rfl, rfl, rfl, trivial⟩
  · rintro m r h ⟨rfl, rfl, rfl, _⟩
    conv => whnf
    repeat (refine ⟨gP_of ⟨by omega, by omega⟩, ?_⟩; conv => whnf)
    refine cT rfl ?_
    conv => whnf
    repeat (refine QCall.k0 (insNilT c) ?_; conv => whnf)
    exact ⟨rfl, rfl⟩
theorem sortNilT (c : FuncId) : QCall Tryz.prog 89 [.nilO, .fn c []] [] (.tup []) := by
  refine QCall.args (args' := [.nilS, .fn c []]) ?_ (.cons (by intro c u h; simpa [Rep] using h) (.cons (VLe.refl _) .nil))
  refine fcalls (F := Tryz.f89) c89 rfl rfl rfl mixed rfl fun X => ?_
  conv => whnf
  repeat ((first | refine QCall.k0 (bitsLen) ?_ | refine QCall.k0 (pdqNilT c) ?_); conv => whnf)
  exact ⟨rfl, rfl⟩
theorem sortOwnT (b : Nat) (xs : List Ent) (hE : PropOK xs) (hne : xs ≠ []) (hlx : xs.length ≤ 4294967296) :
    ACalls Tryz.prog 89 [.osl b 0 xs.length 4, .fn 90 []] [(b, .vec (xs.map encEnt).flatten)] (fun v h' => v = .tup [] ∧ h' = [(b, .vec ((sortL entC xs).map encEnt).flatten)]) :=
  sortF_encW (by decide) ⟨Tryz.f89, _, rfl, rfl, rfl⟩ ⟨Tryz.f90, _, rfl, rfl, rfl⟩ sortLawT entC (dec := decEnt) decEnt_enc (fun a => rfl) entC_w xs (fun x hx y hy h1 h2 => Classical.byContradiction fun hn => (entC_ne (hE.form x hx) (hE.form y hy) hn).elim h1 h2) hne hlx (fun x hx y hy => compareEnt x y) b
/-! the signs of a line -/
theorem indexFuncI (l : List Int) (hl : l.length ≤ LMAX) (f : FuncId) (caps : List AV) (p : Int → Bool) (hp : ∀ w ∈ l, QCall Tryz.prog f (.int .i64 w :: caps) [] (.bool (p w))) :
    QCall Tryz.prog 136 [.sl 1 none (ints l), .fn f caps] [] (.int .i64 (firstI p l)) := by
  refine fcalls (F := Tryz.f136) c136 rfl rfl rfl mixed rfl fun X => ?_
  conv => whnf
  unfold LMAX at hl
  refine sloop rfl mixed [0, 1, 7, 8] [] (fun m r h => ∃ (i : Nat), r = [(0, [], .sl 1 none (ints l)), (1, [], .fn f caps), (7, [], .int .i64 (ints l).length), (8, [], .int .i64 i)] ∧ h = [] ∧ m = l.length - i ∧ i ≤ l.length ∧ Below p l i) ?_ ?_
  · conv => whnf
    exact ⟨_, 0, rfl, rfl, rfl, by omega, .zero⟩
  · rintro m r h ⟨i, rfl, rfl, rfl, hi, hg⟩
    conv => whnf
    refine ⟨fun hc => ?_, fun hc => ?_⟩ <;> simp [ints_length] at hc
    · obtain ⟨x, hx⟩ := get_lt hc
      conv => whnf
      repeat ((first | refine ix (by assumption) ?_ | (refine QCall.k0 (hp x (List.mem_of_getElem? hx)) ?_)); conv => whnf)
      refine ⟨fun hd => ?_, fun hd => ?_⟩
      · conv => whnf
        exact ⟨by rw [hg.at hx hd], rfl⟩
      · conv => whnf
        repeat (refine ⟨gP_of ⟨by omega, by omega⟩, ?_⟩; conv => whnf)
        exact ⟨_, by omega, i + 1, rfl, rfl, rfl, by omega, hg.succ hx hd⟩
    · conv => whnf
      exact ⟨by rw [hg.end hc], rfl⟩
theorem containsFuncI (l : List Int) (hl : l.length ≤ LMAX) (f : FuncId) (caps : List AV) (p : Int → Bool) (hp : ∀ w ∈ l, QCall Tryz.prog f (.int .i64 w :: caps) [] (.bool (p w))) :
    QCall Tryz.prog 85 [.sl 1 none (ints l), .fn f caps] [] (.bool (l.any p)) := by
  refine fcalls (F := Tryz.f85) c85 rfl rfl rfl mixed rfl fun X => ?_
  conv => whnf
  refine QCall.k0 (indexFuncI l hl f caps p hp) ?_
  conv => whnf
  exact ⟨congrArg AV.bool (firstI_any p l), rfl⟩
def badS (l : Lst) (s : Int) : Bool := !wthn s 0 ((l.signs.length : Int) - 1)
theorem badSF (l : Lst) (s : Int) (hl : l.signs.length ≤ LMAX) : QCall Tryz.prog 86 [.int .i64 s, .iptr (encLst l)] [] (.bool (badS l s)) := by
  unfold LMAX at hl
  have e : badS l s = !wthn s 0 (((l.signs.map encSgn).length : Int) - 1) := by rw [List.length_map]; rfl
  rw [e]
  have hl2 : (l.signs.map encSgn).length ≤ 140737488355328 := by rw [List.length_map]; exact hl
  refine fcalls (F := Tryz.f86) c86 rfl rfl rfl mixed rfl fun X => ?_
  conv => whnf
  repeat ((first | refine ⟨gP_of ⟨by omega, by omega⟩, ?_⟩ | refine QCall.k0 (iwithin _ _ _) ?_); conv => whnf)
  exact ⟨rfl, rfl⟩
/-! what is proposed -/
def strsM (l : Lst) (per : Int) (line : List Int) (cls : List UInt8) (to : Nat) (E : List Ent) : List Ent := ((List.range to).drop (to - 4)).foldl (fun E k => strM (txM l per 1) cls ((line.take to).drop k) E []) E
def toM (l : Lst) (per : Int) (line : List Int) (E : List Ent) (to : Nat) : List Ent := (txM l per 3 (line.getD to 0)).foldl (fun E cls => strsM l per line cls to E) E
def lineM (l : Lst) (per : Int) (E : List Ent) (line : List Int) : List Ent := ((List.range line.length).drop 1).foldl (toM l per line) E
def propM (l : Lst) (per : Int) (lines : List (List Int)) : List Ent := lines.foldl (lineM l per) []
def linesE (l : Lst) : List (List Int) → Int
  | [] => 0
  | x :: t => if 60 < x.length then 2 else if x.any (badS l) = true then 23 else linesE l t
def propE (l : Lst) (per : Int) (lines : List (List Int)) : Int :=
  if lstErr l ≠ 0 then lstErr l
  else if wthn per 1 l.periods = false then 13
  else if 40 < lines.length then 2
  else if linesE l lines ≠ 0 then linesE l lines
  else if 200 < (propM l per lines).length then 2 else 0
def propR (l : Lst) (per : Int) (lines : List (List Int)) : List Ent := if propE l per lines = 0 then sortL entC (propM l per lines) else []
theorem linesE_ok {l : Lst} : ∀ {lines : List (List Int)}, linesE l lines = 0 → ∀ x ∈ lines, x.length ≤ 60 ∧ ∀ s ∈ x, 0 ≤ s ∧ s < l.signs.length
  | [], _, x, hx => by cases hx
  | a :: t, h, x, hx => by
    unfold linesE at h
    split at h
    · cases h
    split at h
    · cases h
    rename_i h1 h2
    rcases List.mem_cons.1 hx with rfl | hx
    · refine ⟨by omega, fun s hs => ?_⟩
      have h3 : ¬ badS l s = true := fun hb => h2 (List.any_eq_true.2 ⟨s, hs, hb⟩)
      unfold badS at h3
      simp only [Bool.not_eq_true', Bool.not_eq_false] at h3
      have := wthn_iff.1 h3
      omega
    · exact linesE_ok h x hx
theorem range_get {n i : Nat} (h : i < n) : (List.range n)[i]? = some i := by rw [List.getElem?_range h]
theorem RowT.ofP {α : Type} {k : Nat} {enc : α → List AV} {L : List α} {e : Int} {f : FuncId} {vs : List AV} {h : Heap}
    (hf : ACalls Tryz.prog f vs h (fun v h' => (v = .tup [.nilS, .int .i64 e] ∧ L = []) ∨ ∃ x hp Z, v = .tup [x, .int .i64 e] ∧ Row k enc L x hp ∧ h'.Perm (hp ++ Z))) : ACalls Tryz.prog f vs h (RowT k enc L e) := by
  refine ACalls.post hf ?_
  rintro v h1 (⟨rfl, rfl⟩ | ⟨x, hp, Z, rfl, hr, hpm⟩)
  · exact ⟨_, [], ⟨.nilO, [], [], rfl, .inl ⟨rfl, rfl, rfl⟩, rfl⟩, VLe.tup (.cons nil_le_nilO (.cons (VLe.refl _) .nil)), by simp, by simp [keys]⟩
  · exact ⟨_, hp ++ Z, ⟨x, hp, Z, rfl, hr, rfl⟩, VLe.refl _, fun k o hm => hpm.mem_iff.2 hm, fun hn => (List.Perm.nodup_iff (hpm.map _)).1 hn⟩
theorem ProposeA (l : Lst) (per : Int) (lines : List (List Int)) (hl : LstFit l) (hll : lines.length ≤ 1048576) (hlx : ∀ x ∈ lines, x.length ≤ 1048576) :
    ACalls Tryz.prog 36 [.agg (encLst l), .int .i64 per, .sl 1 none (lines.map encIs)] [] (RowT 4 encEnt (propR l per lines) (propE l per lines)) := by
  have hck := signsCheck l hl
  have hsl : l.signs.length ≤ LMAX := hl.signs
  by_cases h0 : lstErr l ≠ 0
  · have he : propE l per lines = lstErr l := by unfold propE; rw [if_pos h0]
    rw [propR, he, if_neg h0]
    refine RowT.nilT ?_
    refine fcalls (F := Tryz.f36) c36 rfl rfl rfl mixed rfl fun X => ?_
    conv => whnf
    repeat (refine QCall.k0 (hck) ?_; conv => whnf)
    refine cT (by simpa using h0) ?_
    conv => whnf
    skip
  have h0 : lstErr l = 0 := by omega
  rw [h0] at hck
  cases h1 : wthn per 1 l.periods with
  | false =>
    have he : propE l per lines = 13 := by unfold propE; rw [if_neg (by omega), if_pos h1]
    rw [propR, he, if_neg (by decide)]
    have h1 : (decide (1 ≤ per) && decide (per ≤ l.periods)) = false := h1
    refine RowT.nilT ?_
    refine fcalls (F := Tryz.f36) c36 rfl rfl rfl mixed rfl fun X => ?_
    conv => whnf
    repeat (refine QCall.k0 (hck) ?_; conv => whnf)
    refine cF rfl ?_
    conv => whnf
    repeat (refine QCall.k0 (iwithin per 1 l.periods) ?_; conv => whnf)
    refine cT (by rw [h1]; rfl) ?_
    conv => whnf
    skip
  | true =>
    have h1' : (decide (1 ≤ per) && decide (per ≤ l.periods)) = true := h1
    by_cases h2 : 40 < lines.length
    · have he : propE l per lines = 2 := by unfold propE; rw [if_neg (by omega), if_neg (by rw [h1]; decide), if_pos h2]
      rw [propR, he, if_neg (by decide)]
      refine RowT.nilT ?_
      refine fcalls (F := Tryz.f36) c36 rfl rfl rfl mixed rfl fun X => ?_
      conv => whnf
      repeat (refine QCall.k0 (hck) ?_; conv => whnf)
      refine cF rfl ?_
      conv => whnf
      repeat (refine QCall.k0 (iwithin per 1 l.periods) ?_; conv => whnf)
      refine cF (by rw [h1']; rfl) ?_
      conv => whnf
      skip
      refine cT (by simp; omega) ?_
      conv => whnf
      skip
    have hN : lines.length ≤ 40 := by omega
    have hpe : propE l per lines = if linesE l lines ≠ 0 then linesE l lines else if 200 < (propM l per lines).length then 2 else 0 := by
      unfold propE
      rw [if_neg (by omega), if_neg (by rw [h1]; decide), if_neg h2]
    have hE1 : linesE l lines ≠ 0 → propE l per lines = linesE l lines ∧ propR l per lines = [] := by
      intro h
      have : propE l per lines = linesE l lines := by rw [hpe, if_pos h]
      exact ⟨this, by rw [propR, this, if_neg h]⟩
    have hE2 : linesE l lines = 0 → 200 < (propM l per lines).length → propE l per lines = 2 ∧ propR l per lines = [] := by
      intro h h'
      have : propE l per lines = 2 := by rw [hpe, if_neg (by omega), if_pos h']
      exact ⟨this, by rw [propR, this, if_neg (by decide)]⟩
    have hE3 : linesE l lines = 0 → ¬ 200 < (propM l per lines).length → propE l per lines = 0 ∧ propR l per lines = sortL entC (propM l per lines) := by
      intro h h'
      have : propE l per lines = 0 := by rw [hpe, if_neg (by omega), if_neg h']
      exact ⟨this, by rw [propR, this, if_pos rfl]⟩
    obtain ⟨e, he⟩ : ∃ e, e = propE l per lines := ⟨_, rfl⟩
    obtain ⟨L, hL⟩ : ∃ L, L = propR l per lines := ⟨_, rfl⟩
    rw [← he, ← hL] at hE1 hE2 hE3 ⊢
    have hPH := propH_of (per := per) h0
    refine RowT.ofP ?_
    refine fcalls (F := Tryz.f36) c36 rfl rfl rfl mixed rfl fun X => ?_
    conv => whnf
    repeat (refine QCall.k0 (hck) ?_; conv => whnf)
    refine cF rfl ?_
    conv => whnf
    repeat (refine QCall.k0 (iwithin per 1 l.periods) ?_; conv => whnf)
    refine cF (by rw [h1']; rfl) ?_
    conv => whnf
    skip
    refine cF (by simp; omega) ?_
    conv => whnf
    skip
    refine sloop rfl mixed [1, 2, 3, 31, 32, 33] [] (fun m r h => ∃ (i : Nat), r = [(1, [], .int .i64 per), (2, [], .sl 1 none (lines.map encIs)), (3, [], .iptr (encLst l)), (31, [], .sl 1 none (lines.map encIs)), (32, [], .int .i64 (lines.map encIs).length), (33, [], .int .i64 i)] ∧ h = [] ∧ m = lines.length - i ∧ i ≤ lines.length ∧ linesE l lines = linesE l (lines.drop i)) ?_ ?_
    · conv => whnf
      exact ⟨_, 0, rfl, rfl, rfl, by omega, rfl⟩
    · rintro m r h ⟨i, rfl, rfl, rfl, hi, hg⟩
      conv => whnf
      refine ⟨fun hi2 => ?_, fun hi2 => ?_⟩ <;> simp at hi2
      · obtain ⟨x, hx⟩ := get_lt hi2
        have hxl := hlx x (List.mem_of_getElem? hx)
        have hcf := containsFuncI x (by unfold LMAX; omega) 86 [.iptr (encLst l)] (badS l) (fun s _ => badSF l s hsl)
        rw [drop_cons hx, linesE] at hg
        conv => whnf
        repeat (refine ix (by assumption) ?_; conv => whnf)
        refine ⟨fun hq => ?_, fun hq => ?_⟩ <;> simp [ints_length] at hq
        · have hq : 60 < x.length := by omega
          rw [if_pos hq] at hg
          have h3 := hE1 (by omega)
          conv => whnf
          skip
          exact .inl ⟨by rw [h3.1, hg], h3.2⟩
        · have hq : ¬ 60 < x.length := by omega
          rw [if_neg hq] at hg
          conv => whnf
          repeat (refine QCall.k0 (hcf) ?_; conv => whnf)
          refine ⟨fun hq2 => ?_, fun hq2 => ?_⟩
          · rw [if_pos hq2] at hg
            have h3 := hE1 (by omega)
            conv => whnf
            skip
            exact .inl ⟨by rw [h3.1, hg], h3.2⟩
          · rw [if_neg (by rw [hq2]; decide)] at hg
            conv => whnf
            repeat (refine ⟨gP_of ⟨by omega, by omega⟩, ?_⟩; conv => whnf)
            exact ⟨_, by omega, i + 1, rfl, rfl, rfl, by omega, hg⟩
      · rw [drop_nil hi2] at hg
        have hg : linesE l lines = 0 := hg
        have hok := linesE_ok hg
        conv => whnf
        repeat (intro (nb : Nat); conv => whnf)
        rename_i mb
        have hpm : propM l per lines = lines.foldl (lineM l per) [] := rfl
        obtain ⟨P, hP⟩ : ∃ P, P = propM l per lines := ⟨_, rfl⟩
        rw [← hP] at hpm hE2 hE3
        obtain ⟨f1, hf1⟩ : ∃ f, f = lineM l per := ⟨_, rfl⟩
        rw [← hf1] at hpm
        refine tloop rfl mixed [11, 49, 50, 51] [] (fun m r h => ∃ (i : Nat) (E : List Ent) (ev : AV) (eh : Heap), r = [(11, [], .optr nb 0), (49, [], .sl 1 none (lines.map encIs)), (50, [], .int .i64 (lines.map encIs).length), (51, [], .int .i64 i)] ∧ h = SPH l per nb mb E ev eh ∧ m = lines.length - i ∧ i ≤ lines.length ∧ EntsH E ∧ PropOK E ∧ Row 4 encEnt E ev eh ∧ P = (lines.drop i).foldl f1 E) ?_ ?_
        · conv => whnf
          exact ⟨_, _, Turn.cells (.here _) (.cons (VLe.refl _) (.cons (VLe.refl _) (.cons (VLe.refl _) (.cons (VLe.refl _) (.cons nil_le_nilO .nil))))), _, 0, [], .nilO, [], rfl, rfl, rfl, by omega, ⟨by simp, by simp⟩, ⟨by simp, by simp⟩, .inl ⟨rfl, rfl, rfl⟩, hpm⟩
        · rintro m r hA ⟨i, E, ev, eh, rfl, rfl, rfl, hi, hE, hEo, hr, hfo⟩
          conv => whnf
          refine ⟨fun hi2 => ?_, fun hi2 => ?_⟩ <;> simp at hi2
          · obtain ⟨x, hx⟩ := get_lt hi2
            obtain ⟨hx60, hxs⟩ := hok x (List.mem_of_getElem? hx)
            rw [drop_cons hx, List.foldl_cons] at hfo
            obtain ⟨F1, hF1⟩ : ∃ F, F = f1 E x := ⟨_, rfl⟩
            rw [← hF1] at hfo
            rw [hf1, lineM] at hF1
            obtain ⟨f2, hf2⟩ : ∃ f, f = toM l per x := ⟨_, rfl⟩
            rw [← hf2] at hF1
            unfold SPH PV
            conv => whnf
            repeat (refine ix (by assumption) ?_; conv => whnf)
            refine tloop rfl mixed [11, 13, 14, 49, 50, 51] [] (fun m r h => ∃ (j : Nat) (E2 : List Ent) (ev2 : AV) (eh2 : Heap), r = [(11, [], .optr nb 0), (13, [], .sl 1 none (ints x)), (14, [], .int .i64 j), (49, [], .sl 1 none (lines.map encIs)), (50, [], .int .i64 (lines.map encIs).length), (51, [], .int .i64 i)] ∧ h = SPH l per nb mb E2 ev2 eh2 ∧ m = x.length - j ∧ 1 ≤ j ∧ EntsH E2 ∧ PropOK E2 ∧ Row 4 encEnt E2 ev2 eh2 ∧ F1 = ((List.range x.length).drop j).foldl f2 E2) ?_ ?_
            · conv => whnf
              exact ⟨_, _, Turn.refl _ _, _, 1, E, _, _, rfl, rfl, rfl, by omega, hE, hEo, hr, hF1⟩
            · rintro m r hB ⟨j, E2, ev2, eh2, rfl, rfl, rfl, hj, hE2, hEo2, hr2, hfo2⟩
              conv => whnf
              skip
              refine ⟨fun hj2 => ?_, fun hj2 => ?_⟩ <;> simp [ints_length] at hj2
              · obtain ⟨y, hy⟩ := get_lt hj2
                have hy0 := hxs y (List.mem_of_getElem? hy)
                rw [drop_cons (range_get hj2), List.foldl_cons] at hfo2
                obtain ⟨F2, hF2⟩ : ∃ F, F = f2 E2 j := ⟨_, rfl⟩
                rw [← hF2] at hfo2
                rw [hf2, toM, getD_of hy] at hF2
                have htx := textsA nb mb l per 3 y ev2 hPH hy0
                have htl : ∀ t ∈ txM l per 3 y, t.length ≤ 8 ∧ NoSp t := fun t ht => tx_mem hPH ht
                have htn : (txM l per 3 y).length ≤ 12 := by
                  unfold txM
                  rw [List.length_map]
                  refine Nat.le_trans (List.length_filter_le _ _) ?_
                  obtain ⟨z, hz⟩ := get_lt (l := l.signs) (i := y.toNat) (by omega)
                  rw [getD_of hz]
                  exact hPH.many z (List.mem_of_getElem? hz)
                obtain ⟨TX, hTX⟩ : ∃ TX, TX = txM l per 3 y := ⟨_, rfl⟩
                obtain ⟨f3, hf3⟩ : ∃ f : List Ent → List UInt8 → List Ent, f = fun E cls => strsM l per x cls j E := ⟨_, rfl⟩
                rw [← hTX] at htx htl htn hF2
                rw [← hf3] at hF2
                unfold PV at htx
                unfold SPH PV
                conv => whnf
                repeat ((first | refine ix (by assumption) ?_ | (refine QCall.k (QCall.perm htx (h2 := _) (List.Perm.refl _)) ?_)); conv => whnf)
                refine tloop rfl mixed [11, 13, 14, 49, 50, 51, 66, 67, 68] [] (fun m r h => ∃ (k : Nat) (E3 : List Ent) (ev3 : AV) (eh3 : Heap), r = [(11, [], .optr nb 0), (13, [], .sl 1 none (ints x)), (14, [], .int .i64 j), (49, [], .sl 1 none (lines.map encIs)), (50, [], .int .i64 (lines.map encIs).length), (51, [], .int .i64 i), (66, [], .sl 1 none (TX.map encTx)), (67, [], .int .i64 (TX.map encTx).length), (68, [], .int .i64 k)] ∧ h = SPH l per nb mb E3 ev3 eh3 ∧ m = TX.length - k ∧ k ≤ TX.length ∧ EntsH E3 ∧ PropOK E3 ∧ Row 4 encEnt E3 ev3 eh3 ∧ F2 = (TX.drop k).foldl f3 E3) ?_ ?_
                · conv => whnf
                  exact ⟨_, _, Turn.refl _ _, _, 0, E2, _, _, rfl, rfl, rfl, by omega, hE2, hEo2, hr2, hF2⟩
                · rintro m r hC ⟨k, E3, ev3, eh3, rfl, rfl, rfl, hk, hE3', hEo3, hr3, hfo3⟩
                  conv => whnf
                  refine ⟨fun hk2 => ?_, fun hk2 => ?_⟩ <;> simp at hk2
                  · obtain ⟨cls, hc⟩ := get_lt hk2
                    obtain ⟨hc1, hc2⟩ := htl cls (List.mem_of_getElem? hc)
                    rw [drop_cons hc, List.foldl_cons] at hfo3
                    obtain ⟨F3, hF3⟩ : ∃ F, F = f3 E3 cls := ⟨_, rfl⟩
                    rw [← hF3] at hfo3
                    rw [hf3] at hF3
                    have hF3 : F3 = ((List.range j).drop (j - 4)).foldl (fun E k => strM (txM l per 1) cls ((x.take j).drop k) E []) E3 := hF3
                    obtain ⟨f4, hf4⟩ : ∃ f : List Ent → Nat → List Ent, f = fun E k => strM (txM l per 1) cls ((x.take j).drop k) E [] := ⟨_, rfl⟩
                    rw [← hf4] at hF3
                    unfold SPH PV
                    conv => whnf
                    repeat ((first | refine ⟨gP_of ⟨by omega, by omega⟩, ?_⟩ | refine ix (by assumption) ?_); conv => whnf)
                    refine tloop rfl mixed [11, 13, 14, 16, 17, 49, 50, 51, 66, 67, 68] [] (fun m r h => ∃ (a : Nat) (E4 : List Ent) (ev4 : AV) (eh4 : Heap), r = [(11, [], .optr nb 0), (13, [], .sl 1 none (ints x)), (14, [], .int .i64 j), (16, [], .str cls), (17, [], .int .i64 a), (49, [], .sl 1 none (lines.map encIs)), (50, [], .int .i64 (lines.map encIs).length), (51, [], .int .i64 i), (66, [], .sl 1 none (TX.map encTx)), (67, [], .int .i64 (TX.map encTx).length), (68, [], .int .i64 k)] ∧ h = SPH l per nb mb E4 ev4 eh4 ∧ m = j - a ∧ EntsH E4 ∧ PropOK E4 ∧ Row 4 encEnt E4 ev4 eh4 ∧ F3 = ((List.range j).drop a).foldl f4 E4) ?_ ?_
                    · conv => whnf
                      exact ⟨_, _, Turn.refl _ _, _, j - 4, E3, _, _, by rw [show ((j - 4 : Nat) : Int) = max 0 ((j : Int) - 4) by omega], rfl, rfl, hE3', hEo3, hr3, hF3⟩
                    · rintro m r hD ⟨a, E4, ev4, eh4, rfl, rfl, rfl, hE4, hEo4, hr4, hfo4⟩
                      conv => whnf
                      skip
                      refine ⟨fun ha2 => ?_, fun ha2 => ?_⟩ <;> simp at ha2
                      · rw [drop_cons (range_get ha2), List.foldl_cons] at hfo4
                        have hf4x : f4 E4 a = strM (txM l per 1) cls ((x.take j).drop a) E4 [] := by rw [hf4]
                        have hst : ∀ s ∈ (x.take j).drop a, 0 ≤ s ∧ s < l.signs.length := fun s hs => hxs s (List.mem_of_mem_take (List.mem_of_mem_drop hs))
                        have hstl : ((x.take j).drop a).length ≤ 60 := by rw [List.length_drop, List.length_take]; omega
                        have hrec := strA nb mb l per cls hPH hc1 ((x.take j).drop a) E4 [] ev4 eh4 hst hstl (by simp) (by unfold NoSp; simp) hE4 hr4
                        have hEx := EntsH.str hPH cls ((x.take j).drop a) E4 [] hE4 (by unfold NoSp; simp)
                        have hOx := (strM_grow (txM l per 1) cls ((x.take j).drop a) E4 []).ok hEo4
                        rw [← hf4x] at hrec hEx hOx
                        have e1 : List.drop ((a : Nat) : Int).toNat (List.take ((j : Nat) : Int).toNat (ints x)) = ints ((x.take j).drop a) := by
                          unfold ints
                          rw [Int.toNat_natCast, Int.toNat_natCast, List.map_drop, List.map_take]
                        conv => whnf
                        repeat ((refine ⟨gP_of ⟨by omega, by omega, by rw [ints_length]; omega⟩, ?_⟩); conv => whnf)
                        rw [e1]
                        refine ACalls.mono ?_ hrec
                        rintro v h1 ⟨rfl, ev5, eh5, hr5, hperm⟩
                        conv => whnf
                        repeat (refine ⟨gP_of ⟨by omega, by omega⟩, ?_⟩; conv => whnf)
                        exact ⟨_, _, Turn.perm hperm, _, by omega, a + 1, _, ev5, eh5, rfl, rfl, rfl, hEx, hOx, hr5, hfo4⟩
                      · rw [drop_nil (by rw [List.length_range]; omega)] at hfo4
                        have hfo4 : F3 = E4 := hfo4
                        subst hfo4
                        unfold SPH PV
                        conv => whnf
                        repeat (refine ⟨gP_of ⟨by omega, by omega⟩, ?_⟩; conv => whnf)
                        exact ⟨_, _, Turn.refl _ _, _, by omega, k + 1, _, ev4, eh4, rfl, rfl, rfl, by omega, hE4, hEo4, hr4, hfo3⟩
                  · rw [drop_nil hk2] at hfo3
                    have hfo3 : F2 = E3 := hfo3
                    subst hfo3
                    unfold SPH PV
                    conv => whnf
                    repeat (refine ⟨gP_of ⟨by omega, by omega⟩, ?_⟩; conv => whnf)
                    exact ⟨_, _, Turn.refl _ _, _, by omega, j + 1, _, ev3, eh3, rfl, rfl, rfl, by omega, hE3', hEo3, hr3, hfo2⟩
              · rw [drop_nil (by rw [List.length_range]; omega)] at hfo2
                have hfo2 : F1 = E2 := hfo2
                subst hfo2
                unfold SPH PV
                conv => whnf
                repeat (refine ⟨gP_of ⟨by omega, by omega⟩, ?_⟩; conv => whnf)
                exact ⟨_, _, Turn.refl _ _, _, by omega, i + 1, _, ev2, eh2, rfl, rfl, rfl, by omega, hE2, hEo2, hr2, hfo⟩
          · rw [drop_nil hi2] at hfo
            have hfo : P = E := hfo
            subst hfo
            unfold SPH PV
            have hfew := hE.few
            rcases hr with ⟨hn, rfl, rfl⟩ | ⟨hne, b, rfl, rfl⟩
            · have h3 := hE3 hg (by rw [hn]; simp)
              conv => whnf
              repeat (refine ⟨_, _, .head _, rfl, ?_⟩; conv => whnf)
              refine cF (by simp) ?_
              conv => whnf
              repeat ((first | (refine QCall.k0 (sortNilT _) ?_) | refine ⟨_, _, .head _, rfl, ?_⟩); conv => whnf)
              exact .inr ⟨_, [], _, by rw [h3.1], .inl ⟨by rw [h3.2, hn]; simp [sortL], rfl, rfl⟩, List.Perm.refl _⟩
            · conv => whnf
              repeat (refine ⟨_, _, .head _, rfl, ?_⟩; conv => whnf)
              refine ⟨fun hq => ?_, fun hq => ?_⟩ <;> simp at hq
              · have h3 := hE2 hg (by omega)
                conv => whnf
                skip
                exact .inl ⟨by rw [h3.1], h3.2⟩
              · have h3 := hE3 hg (by omega)
                conv => whnf
                repeat (refine ⟨_, _, .head _, rfl, ?_⟩; conv => whnf)
                refine ACalls.mono ?_ (ACalls.perm (ACalls.frame (sortOwnT b P hEo hne (by omega)) _) (List.perm_append_comm (l₁ := [_]) (l₂ := [_, _])))
                rintro v h1 ⟨h2, ⟨rfl, rfl⟩, rfl⟩
                conv => whnf
                repeat (refine ⟨_, _, .tail _ (.head _), rfl, ?_⟩; conv => whnf)
                obtain ⟨h31, h32⟩ := h3
                rw [h31, h32]
                refine .inr ⟨_, _, _, rfl, .inr ⟨?_, b, ?_, rfl⟩, List.Perm.refl _⟩
                · intro h
                  have := congrArg List.length h
                  rw [sortL_length] at this
                  exact hne (List.eq_nil_of_length_eq_zero this)
                · rw [sortL_length]
theorem ProposeW (l : Lst) (per : Int) (lines : List (List Int)) (hl : LstFit l) (hll : lines.length ≤ 1048576) (hlx : ∀ x ∈ lines, x.length ≤ 1048576) :
    QCall Tryz.prog 36 [.agg (encLst l), .int .i64 per, .sl 1 none (lines.map encIs)] [] (.tup [.sl 4 none ((propR l per lines).map encEnt), .int .i64 (propE l per lines)]) := RowT.ok (by decide) (fun _ => rfl) (ProposeA l per lines hl hll hlx)
end Go.Abs.Wall.Lst

