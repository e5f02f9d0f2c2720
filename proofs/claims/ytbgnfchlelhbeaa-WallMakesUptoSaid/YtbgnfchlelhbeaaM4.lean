/- What is proved: small laws for the walks of this seat, and contracts of its functions. No condition but those each theorem names. -/
import Derived.Test.YtbgnfchlelhbeaaM3
import Derived.Shelf.Sort.Plain
import Derived.Test.YtbgnfchlelhbeaaProg
import Derived.Test.YtbgnfchlelhbeaaRows
import Derived.WalkKit
import Derived.ProofKit
import Derived.OpenShut
import Derived.JoinedCond
import Derived.ReadAgain
import Derived.ChangeStays
/-
  The abstract layer, part Y: drawn regions in which several things are made, in whichever order.
-/
set_option linter.unusedVariables false
set_option linter.unusedSimpArgs false
namespace Go.Abs
open Go
variable {P : Program} {n : Nat} {X : Nat → Prop} {all : List Oper} {cl ord : List Nat} {r : Regs}
/-- an operation that makes a thing: append to a nil slice too -/
def appNil : Op → Bool
  | .call cl => (match cl.callee with
    | .builtin .append => (match cl.args.toList with
      | .const (.slice none 0 0) :: _ => true
      | _ => false)
    | _ => false)
  | _ => false
def makes (op : Op) : Bool := allocLike op || appNil op
theorem opL_makes {r : Regs} {h : Heap} {K : AV → Heap → Prop} {op : Op} (ha : makes op = true) (hq : opL P r h K op) : opL P r h (fun v h' => K v h' ∧ ∃ x, h' = x :: h) op := by
  unfold makes at ha
  rw [Bool.or_eq_true] at ha
  rcases ha with ha | ha
  · exact opL_alloc ha hq
  · unfold appNil at ha
    split at ha <;> try contradiction
    rename_i cl
    split at ha <;> try contradiction
    rename_i hcal
    split at ha <;> try contradiction
    rename_i xs hargs
    simp only [opL, hcal] at hq ⊢
    split at hq <;> try contradiction
    split at hq <;> try contradiction
    split at hq <;> try contradiction
    split at hq <;> try contradiction
    split at hq <;> try contradiction
    split at hq <;> try contradiction
    split at hq
    · split at hq <;> try contradiction
      exact ⟨hq.1, fun q => ⟨hq.2 q, _, rfl⟩⟩
    · rename_i hop
      rw [hargs] at hop
      unfold opnds at hop
      simp only [opnd, ofVal] at hop
      split at hop <;> try contradiction
      cases hop
    · rename_i hop
      rw [hargs] at hop
      unfold opnds at hop
      simp only [opnd, ofVal] at hop
      split at hop <;> try contradiction
      cases hop
    · rename_i hop
      rw [hargs] at hop
      unfold opnds at hop
      simp only [opnd, ofVal] at hop
      split at hop <;> try contradiction
      cases hop
    · exact hq.elim
/-- two neighbours of the order changed about -/
theorem DrawS.swap {kn rest' : List Nat} {k i : Nat} (hs : DrawS all cl (kn ++ k :: i :: rest')) (hji : Nat.testBit (clN cl i) k = false) : DrawS all cl (kn ++ i :: k :: rest') := by
  have hik : ∃ oj, all[i]? = some oj := by
    obtain ⟨o2, ho2, _⟩ := hs.p4 (kn ++ [k]) i rest' (by simp)
    exact ⟨o2, ho2⟩
  obtain ⟨oj, hoj0⟩ := hik
  obtain ⟨o, ho, hedge⟩ := hs.p4 kn k (i :: rest') rfl
  have hedgei : ∀ e ∈ oj.after.toList, Region.binds .any e = true → e.on ∈ kn := by
    obtain ⟨o2, ho2, hh⟩ := hs.p4 (kn ++ [k]) i rest' (by simp)
    rw [hoj0] at ho2; cases ho2
    intro e he hb
    have := hh e he hb
    simp only [List.mem_append, List.mem_singleton] at this
    rcases this with h | h
    · exact h
    · exfalso
      have : Cl cl i k := by
        unfold Cl
        rw [hs.e2 i _ hoj0, cloAt_bit]
        exact ⟨e, he, hb, .inl h⟩
      unfold Cl at this
      rw [hji] at this
      cases this
  refine ⟨hs.e1, hs.e2, ?_, ?_, ?_, hs.n1, hs.d1⟩
  · intro x hx
    have := hs.p2 x hx
    simp only [List.mem_append, List.mem_cons] at this ⊢
    rcases this with h | h | h | h
    · exact .inl h
    · exact .inr (.inr (.inl h))
    · exact .inr (.inl h)
    · exact .inr (.inr (.inr h))
  · have := hs.p3
    simp only [List.nodup_append, List.nodup_cons, List.mem_cons] at this ⊢
    obtain ⟨u1, ⟨u2, u3, u4⟩, u5⟩ := this
    refine ⟨u1, ⟨?_, ?_, u4⟩, ?_⟩
    · rintro (e | e)
      · exact u2 (.inl e.symm)
      · exact u3 e
    · exact fun e => u2 (.inr e)
    · intro x hx y hy
      rcases hy with e | e | e
      · exact u5 x hx y (.inr (.inl e))
      · exact u5 x hx y (.inl e)
      · exact u5 x hx y (.inr (.inr e))
  · intro pre x post hpx
    rcases List.append_eq_append_iff.1 hpx with ⟨a', e1, e2⟩ | ⟨c', e1, e2⟩
    · cases a' with
      | nil =>
        cases e2
        exact ⟨oj, hoj0, fun e he hb => by rw [e1]; simpa using hedgei e he hb⟩
      | cons z a' =>
        cases a' with
        | nil =>
          cases e2
          exact ⟨o, ho, fun e he hb => by rw [e1]; simp [hedge e he hb]⟩
        | cons z2 a' =>
          injection e2 with e3 e4
          injection e4 with e5 e6
          obtain ⟨o2, ho2, hh⟩ := hs.p4 (kn ++ k :: i :: a') x post (by rw [e6]; simp)
          refine ⟨o2, ho2, fun e he hb => ?_⟩
          have := hh e he hb
          rw [e1, ← e3, ← e5]
          simp only [List.mem_append, List.mem_cons] at this ⊢
          rcases this with h | h | h | h
          · exact .inl h
          · exact .inr (.inr (.inl h))
          · exact .inr (.inl h)
          · exact .inr (.inr (.inr h))
    · cases c' with
      | nil =>
        simp at e2
        obtain ⟨e3, e4⟩ := e2
        subst e3
        exact ⟨oj, hoj0, fun e he hb => by have := hedgei e he hb; rw [e1] at this; simpa using this⟩
      | cons z c' =>
        simp at e2
        obtain ⟨e3, e4⟩ := e2
        subst e3
        exact hs.p4 pre x (c' ++ k :: i :: rest') (by rw [e1]; simp)
/-- a thing is made next -/
theorem loud_step {K : Regs → Heap → Prop} {Rg : List Nat → List Nat → Regs → Heap → Prop} {Q : Exit → Act → World → Prop} (hs : DrawS all cl ord) {fuel i : Nat} {rest kn nf : List Nat} {ents : List (Nat × Nat × G × AV)} {h : Heap} {L : Array Bool} {g0 : Gh} {a : Act} {w : World} {o : Oper}
    (hi : DInv n P all cl ord r kn (i :: rest) nf ents h L) (ho : all[i]? = some o) (hoi : all.toArray[i]? = some o) (hgd : o.guard = none) (hal0 : makes o.op = true) (hkl : L.getD i false = false)
    (he : ∀ e ∈ o.after.toList, Region.binds .any e = true → L.getD e.on false = true)
    (hr : opL P (entR ents r) h (fun v h' => setP n o.dst [] v (entR ents r) fun r' => Rg rest nf r' h') o.op) (hc : Conc n X g0 (entR (entL L ents) r) h a w) (hu : unl all.length L ≤ fuel + 1)
    (IH : ∀ (rest kn nf : List Nat) (ents : List (Nat × Nat × G × AV)) (h : Heap) (L : Array Bool) (g0 : Gh) (a : Act) (w : World),
      DInv n P all cl ord r kn rest nf ents h L → Rg rest nf (entR ents r) h → Conc n X g0 (entR (entL L ents) r) h a w → unl all.length L ≤ fuel →
      (∀ r' h' g' a' w', K r' h' → Conc n X g' r' h' a' w' → Step X g0 h w g' h' w' → Q .normal a' w') → wpAny P .any all.toArray Q fuel L a w)
    (hf : ∀ r' h' g' a' w', K r' h' → Conc n X g' r' h' a' w' → Step X g0 h w g' h' w' → Q .normal a' w') :
    wpOp P all.toArray Q i (wpAny P .any all.toArray Q fuel (L.setIfInBounds i true)) a w := by
  have hko : i ∈ ord := by rw [hi.split]; simp
  have hnk : i ∉ kn := by
    have := hs.p3
    rw [hi.split, List.nodup_append] at this
    exact fun hm => this.2.2 i hm i (by simp) rfl
  obtain ⟨hlt, _⟩ := hi.lt hs hko
  have hlti : i < all.length := by rw [← hi.lsize]; exact hlt
  have hil := hkl
  have hedge : ∀ e ∈ o.after.toList, Region.binds .any e = true → e.on ∈ kn := by
    obtain ⟨o2, ho2, hh⟩ := hs.p4 kn i rest hi.split
    rw [ho] at ho2; cases ho2; exact hh
  have hclk : ∀ j, Cl cl i j → j ∈ kn := by
    intro j hj
    have := (clo_closed hs (S := fun x => x ∈ kn ∨ x = i) (fun x hS => by
      rcases hS with hS | rfl
      · obtain ⟨o', ho', hh⟩ := hi.kn_closed hs x hS
        exact ⟨o', ho', fun e a b => .inl (hh e a b)⟩
      · exact ⟨o, ho, fun e a b => .inl (hedge e a b)⟩) i (.inr rfl) j hj)
    rcases this.1 with h | rfl
    · exact h
    · exact absurd this.2 (Nat.lt_irrefl _)
  have hlook : ∀ t ∈ readsOf all o, Look all cl ents r i t (lookR (entR ents r) t) := by
    intro t ht
    refine look_of hi hs ho (fun x hx => hx) (fun j hj => ⟨hclk j hj, fun x hx _ => hx⟩) ?_ t ht
    intro x hx hcx
    exact hnk (hi.kn_clo hs (hi.ent1 x hx).1 hcx).1
  have hclo : ∀ j, Cl cl i j → L.getD j false = true := by
    intro j hj
    have := (clo_closed hs (S := fun x => L.getD x false = true ∨ x = i) (fun x hS => by
      rcases hS with hS | rfl
      · obtain ⟨o', ho', hh⟩ := hi.lclosed x hS
        exact ⟨o', ho', fun e a b => .inl (hh e a b)⟩
      · exact ⟨o, ho, fun e a b => .inl (he e a b)⟩) i (.inr rfl) j hj)
    rcases this.1 with h | rfl
    · exact h
    · exact absurd this.2 (Nat.lt_irrefl _)
  unfold wpOp
  simp only [hoi, wanted_none hgd, if_true]
  left
  have hac : ∀ j, Cl cl i j → Cl cl j i → False := fun j a b => hnk (hi.kn_clo hs (hclk j a) b).1
  have hlookL : ∀ t ∈ readsX o.op.operands.toList, lookR (entR ents r) t = lookR (entR (entL L ents) r) t := by
    intro t ht
    have ht' : t ∈ readsOf all o := by unfold readsOf; exact List.mem_append_right _ ht
    refine look_fun hi hs (hlook t ht') (look_of hi hs ho (fun x hx => (mem_entL.1 hx).1) ?_ ?_ t ht') hac
    · intro j hj
      exact ⟨hclk j hj, fun x hx hxj => mem_entL.2 ⟨hx, by rw [hxj]; exact hclo j hj⟩⟩
    · intro x hx hcx
      exact hnk (hi.kn_clo hs (hi.ent1 x (mem_entL.1 hx).1).1 hcx).1
  -- the heap behind it
  have hr2 : opL P (entR (entL L ents) r) h (fun v h' => (setP n o.dst [] v (entR ents r) fun r' => Rg rest nf r' h') ∧ ∃ x, h' = x :: h) o.op :=
    opL_makes hal0 (opL_congr hlookL hr)
  refine opL_ok hr2 hc ?_
  rintro v h' g' u w' ⟨hset, hx⟩ hcw hrep hst
  have hstab : ∀ k' ∈ kn, (L.setIfInBounds i true).getD k' false = false → ∃ o g v Rk, all[k']? = some o ∧ entryQ P all Rk h' (fun g' v' => g' = g ∧ v' = v) o ∧
      (∀ t ∈ readsOf all o, Look all cl ents r k' t (lookR Rk t)) ∧
      (∀ d, o.dst = some d → (k', d, g, v) ∈ ents ∧ d < n ∧ (∀ e ∈ g, e.1 ≠ d) ∧ ∀ t gg v, lookR r t = some (gg, v) → ∀ e ∈ gg, e.1 ≠ d) ∧
      (k' ∉ nf → ∀ h', entryQ P all Rk h' (fun g' v' => g' = g ∧ v' = v) o) := by
    intro k' hk' hl'
    have hl : L.getD k' false = false := by
      cases hb : L.getD k' false with
      | false => rfl
      | true => rw [getD_set_true hb] at hl'; cases hl'
    obtain ⟨o', g2, v2, Rk, q1, q2, q3, q4, q5⟩ := hi.fact k' hk' hl
    refine ⟨o', g2, v2, Rk, q1, ?_, q3, q4, q5⟩
    obtain ⟨x, rfl⟩ := hx
    exact entryQ_heap (fun g K hh => opQ_more hh) q2
  have hown0 : ∀ {p : Prop}, (L.setIfInBounds i true).getD i false = false → p := by
    intro p hh
    have : (L.setIfInBounds i true).getD i false = true := by simp [hlt]
    rw [this] at hh; cases hh
  have hf' : ∀ r2 h2 g2 a2 w2, K r2 h2 → Conc n X g2 r2 h2 a2 w2 → Step X g' h' w' g2 h2 w2 → Q .normal a2 w2 :=
    fun r2 h2 g2 a2 w2 hK hc2 hst2 => hf r2 h2 g2 a2 w2 hK hc2 (hst.trans hc.cw.own hst2)
  have hun : unl all.length (L.setIfInBounds i true) ≤ fuel := by have := unl_set hlti hi.lsize.symm hil; omega
  cases hd : o.dst with
  | none =>
    rw [hd] at hset
    have hi' := hi.enter (n := n) (P := P) (g := []) (v := v) (ents' := ents) (nf' := nf) (h' := h') (L' := L.setIfInBounds i true) hs ho (by rw [hd]) (by simp) (.inr ⟨rfl, he⟩) hstab hown0
    refine IH rest _ nf ents h' _ g' _ w' hi' hset ?_ hun hf'
    have hE : entL (L.setIfInBounds i true) ents = entL L ents := by
      unfold entL
      refine List.filter_congr fun x hx => ?_
      exact getD_set_ne false (fun e => hnk (e ▸ (hi.ent1 x hx).1))
    rw [hE]
    simpa [Act.put] using hc.step hcw hst
  | some d =>
    rw [hd] at hset
    unfold setP at hset
    simp only at hset
    split at hset <;> try contradiction
    rename_i hdn
    rw [Nat.blt_eq] at hdn
    split at hset <;> try contradiction
    rename_i hni
    have hnr := notIn_entR (notIn_cons hni).2
    have hi' := hi.enter (n := n) (P := P) (g := []) (v := v) (ents' := (i, d, [], v) :: ents) (nf' := nf) (h' := h') (L' := L.setIfInBounds i true) hs ho (by rw [hd]) (by simp) (.inr ⟨rfl, he⟩) hstab hown0
    refine IH rest _ nf ((i, d, [], v) :: ents) h' _ g' _ w' hi' hset ?_ hun hf'
    have hE : entL (L.setIfInBounds i true) ((i, d, [], v) :: ents) = (i, d, [], v) :: entL L ents := by
      unfold entL
      have h1 : (L.setIfInBounds i true).getD i false = true := by simp [hlt]
      rw [List.filter_cons, if_pos h1]
      congr 1
      refine List.filter_congr fun x hx => ?_
      exact getD_set_ne false (fun e => hnk (e ▸ (hi.ent1 x hx).1))
    rw [hE]
    show Conc n X g' ((d, [], v) :: entR (entL L ents) r) h' (a.put (some d) u) w'
    refine hc.put' hcw hst hdn (by simp) ?_ (fun _ => ⟨by simp, hrep⟩) (fun hh => absurd (fun e he => by cases he) hh)
    intro t gg vv hl e hee hed
    rcases look_entR hl with ⟨x, hx, ex⟩ | hl
    · obtain ⟨hx, hlx⟩ := mem_entL.1 hx
      have hcx := hi.path x hx e (by rw [ex]; exact hee) i o ho (hed ▸ hd)
      exact hnk (hi.kn_clo hs (hi.ent1 x hx).1 hcx).1
    · exact notIn_look hnr hl e hee hed
/-! ### several things made, in whichever order -/
def nobit (cl : List Nat) (q : Nat) : List Nat → Bool
  | [] => true
  | x :: l => match Nat.testBit (clN cl q) x with
    | true => false
    | false => nobit cl q l
def somebit (cl : List Nat) (q : Nat) : List Nat → Bool
  | [] => false
  | x :: l => match Nat.testBit (clN cl q) x with
    | true => true
    | false => somebit cl q l
def allSome (cl ms : List Nat) : List Nat → Bool
  | [] => true
  | q :: l => match somebit cl q ms with
    | true => allSome cl ms l
    | false => false
def apartB (cl ms : List Nat) : List Nat → Bool
  | [] => true
  | m :: l => match nobit cl m ms with
    | true => apartB cl ms l
    | false => false
/-- the first one that hangs on nothing before it -/
def pickF (cl : List Nat) : List Nat → List Nat → Option (Nat × List Nat)
  | _, [] => none
  | bef, q :: l => match nobit cl q bef with
    | true => some (q, l)
    | false => match pickF cl (q :: bef) l with
      | some (x, l') => some (x, q :: l')
      | none => none
def erase1 (m : Nat) : List Nat → List Nat
  | [] => []
  | x :: l => match Nat.beq x m with
    | true => l
    | false => x :: erase1 m l
def eachM (G : Nat → Prop) : List Nat → Prop
  | [] => True
  | m :: l => G m ∧ eachM G l
theorem nobit_ok {cl : List Nat} {q : Nat} : ∀ {l : List Nat}, nobit cl q l = true → ∀ x ∈ l, Nat.testBit (clN cl q) x = false
  | [], _, x, hx => by cases hx
  | y :: l, h, x, hx => by
    unfold nobit at h
    split at h
    · cases h
    · rename_i hy
      rcases List.mem_cons.1 hx with rfl | hx
      · exact hy
      · exact nobit_ok h x hx
theorem somebit_ok {cl : List Nat} {q : Nat} : ∀ {l : List Nat}, somebit cl q l = true → ∃ x ∈ l, Cl cl q x
  | [], h => by cases h
  | y :: l, h => by
    unfold somebit at h
    split at h
    · rename_i hy; exact ⟨y, by simp, hy⟩
    · obtain ⟨x, h1, h2⟩ := somebit_ok h
      exact ⟨x, by simp [h1], h2⟩
theorem allSome_ok {cl ms : List Nat} : ∀ {l : List Nat}, allSome cl ms l = true → ∀ q ∈ l, ∃ x ∈ ms, Cl cl q x
  | [], _, q, hq => by cases hq
  | y :: l, h, q, hq => by
    unfold allSome at h
    split at h
    · rename_i hy
      rcases List.mem_cons.1 hq with rfl | hq
      · exact somebit_ok hy
      · exact allSome_ok h q hq
    · cases h
theorem apartB_ok {cl ms : List Nat} : ∀ {l : List Nat}, apartB cl ms l = true → ∀ m ∈ l, ∀ x ∈ ms, Nat.testBit (clN cl m) x = false
  | [], _, m, hm => by cases hm
  | y :: l, h, m, hm => by
    unfold apartB at h
    split at h
    · rename_i hy
      rcases List.mem_cons.1 hm with rfl | hm
      · exact nobit_ok hy
      · exact apartB_ok h m hm
    · cases h
theorem pickF_ok {cl : List Nat} {q : Nat} : ∀ {l bef l2 : List Nat}, pickF cl bef l = some (q, l2) → ∃ b c, l = b ++ q :: c ∧ l2 = b ++ c ∧ (∀ x ∈ bef, Nat.testBit (clN cl q) x = false) ∧ ∀ x ∈ b, Nat.testBit (clN cl q) x = false
  | [], bef, l2, h => by cases h
  | y :: l, bef, l2, h => by
    unfold pickF at h
    split at h
    · rename_i hy
      cases h
      exact ⟨[], l, rfl, rfl, nobit_ok hy, by simp⟩
    · split at h
      · rename_i x l' hx
        cases h
        obtain ⟨b, c, rfl, rfl, h3, h4⟩ := pickF_ok hx
        refine ⟨y :: b, c, rfl, rfl, fun z hz => h3 z (by simp [hz]), fun z hz => ?_⟩
        rcases List.mem_cons.1 hz with rfl | hz
        · exact h3 _ (by simp)
        · exact h4 z hz
      · cases h
theorem erase1_ok {m : Nat} : ∀ {ms : List Nat}, m ∈ ms → ∃ a b, ms = a ++ m :: b ∧ erase1 m ms = a ++ b
  | [], h => by cases h
  | x :: l, h => by
    unfold erase1
    split
    · rename_i hx
      have := Nat.eq_of_beq_eq_true hx
      subst this
      exact ⟨[], l, rfl, rfl⟩
    · rename_i hx
      rcases List.mem_cons.1 h with rfl | h
      · rw [Nat.beq_refl] at hx; cases hx
      · obtain ⟨a, b, e1, e2⟩ := erase1_ok h
        exact ⟨x :: a, b, by rw [e1]; rfl, by rw [e2]; rfl⟩
theorem eachM_ok {G : Nat → Prop} : ∀ {l : List Nat}, eachM G l → ∀ m ∈ l, G m
  | [], _, m, hm => by cases hm
  | y :: l, h, m, hm => by
    rcases List.mem_cons.1 hm with rfl | hm
    · exact h.1
    · exact eachM_ok h.2 m hm
theorem eachM_mono {G G' : Nat → Prop} (hg : ∀ m, G m → G' m) : ∀ {l : List Nat}, eachM G l → eachM G' l
  | [], _ => trivial
  | y :: l, h => ⟨hg _ h.1, eachM_mono hg h.2⟩
/-- one brought to the front -/
theorem DrawS.front {i : Nat} {post : List Nat} : ∀ {a kn : List Nat}, DrawS all cl (kn ++ (a ++ i :: post)) → (∀ x ∈ a, Nat.testBit (clN cl i) x = false) → DrawS all cl (kn ++ (i :: (a ++ post)))
  | [], kn, hs, _ => hs
  | x :: a, kn, hs, h => by
    have h1 : DrawS all cl ((kn ++ [x]) ++ (i :: (a ++ post))) := DrawS.front (a := a) (kn := kn ++ [x]) (by simpa using hs) (fun y hy => h y (by simp [hy]))
    have h2 : DrawS all cl (kn ++ x :: i :: (a ++ post)) := by simpa using h1
    exact DrawS.swap h2 (h x (by simp))
def regM (P : Program) (c : Cfg) (n : Nat) (all : List Oper) (cl : List Nat) (K : Regs → Heap → Prop) : Nat → List Nat → List Nat → List Nat → Regs → Heap → Prop
  | 0, _, _, _, _, _ => False
  | f + 1, ms, rest, nf, r, h => match ms with
    | [] => regD P c n all cl K rest nf r h
    | m0 :: ms0 => match pickF cl (m0 :: ms0) rest with
      | some (q, rest2) => (match all[q]? with
        | none => False
        | some o => match loudD c o with
          | true => False
          | false => entryQ P all r h (fun g v => match pathOK cl all q g with
            | true => setP n o.dst g v r fun r' => regM P c n all cl K f (m0 :: ms0) rest2 (match hfree r g o.op with | true => nf | false => q :: nf) r' h
            | false => False) o)
      | none => (apartB cl (m0 :: ms0) (m0 :: ms0) && allSome cl (m0 :: ms0) rest) = true ∧ eachM (fun m => match all[m]? with
        | none => False
        | some o => (o.guard.isNone && makes o.op) = true ∧ opL P r h (fun v h' => setP n o.dst [] v r fun r' => regM P c n all cl K f (erase1 m (m0 :: ms0)) rest nf r' h') o.op) (m0 :: ms0)
theorem draw_gameM {c : Cfg} {K : Regs → Heap → Prop} {Q : Exit → Act → World → Prop} : ∀ (fuel f : Nat) (ord ms rest kn nf : List Nat) (ents : List (Nat × Nat × G × AV)) (h : Heap) (L : Array Bool) (g0 : Gh) (a : Act) (w : World), DrawS all cl ord →
    DInv n P all cl ord r kn (ms ++ rest) nf ents h L → regM P c n all cl K f ms rest nf (entR ents r) h → Conc n X g0 (entR (entL L ents) r) h a w → unl all.length L ≤ fuel →
    (∀ r' h' g' a' w', K r' h' → Conc n X g' r' h' a' w' → Step X g0 h w g' h' w' → Q .normal a' w') → wpAny P .any all.toArray Q fuel L a w := by
  intro fuel
  induction fuel with
  | zero =>
    intro f ord ms rest kn nf ents h L g0 a w hs hi hr hc hu hf
    have hall := unl_zero (Nat.le_zero.1 hu)
    cases f with
    | zero => exact hr.elim
    | succ f =>
    cases ms with
    | nil => exact draw_game hs 0 rest kn nf ents h L g0 a w hi hr hc hu hf
    | cons x ms =>
      have hx : x ∈ ord := by rw [hi.split]; simp
      obtain ⟨hlt, _⟩ := hi.lt hs hx
      have h1 := hi.lsub x (hall x (by rw [← hi.lsize]; exact hlt))
      have := hs.p3
      rw [hi.split, List.nodup_append] at this
      exact absurd rfl (this.2.2 x h1 x (by simp))
  | succ fuel IH =>
    intro f
    induction f with
    | zero => intro ord ms rest kn nf ents h L g0 a w hs hi hr; exact hr.elim
    | succ f ihr =>
      intro ord ms rest kn nf ents h L g0 a w hs hi hr hc hu hf
      cases ms with
      | nil => exact draw_game hs (fuel + 1) rest kn nf ents h L g0 a w hi hr hc hu hf
      | cons m0 ms0 =>
      have hr0 := hr
      unfold regM at hr
      simp only at hr
      split at hr
      · -- a quiet one, brought to the front
        rename_i k rest2 hpk
        obtain ⟨b, c2, rfl, rfl, hb1, hb2⟩ := pickF_ok hpk
        have hs' : DrawS all cl (kn ++ (k :: (((m0 :: ms0) ++ b) ++ c2))) := DrawS.front (by have := hs; rw [hi.split] at this; simpa using this) (fun x hx => by
          rcases List.mem_append.1 hx with hx | hx
          · exact hb1 x hx
          · exact hb2 x hx)
        have hi : DInv n P all cl (kn ++ (k :: (((m0 :: ms0) ++ b) ++ c2))) r kn (k :: (((m0 :: ms0) ++ b) ++ c2)) nf ents h L := ⟨rfl, hi.lsize, hi.lsub, hi.lclosed, hi.ent1, hi.ent2, hi.ent3, hi.path, hi.fact⟩
        have hs := hs'
        have hko : k ∈ kn ++ (k :: (((m0 :: ms0) ++ b) ++ c2)) := by simp
        have hnk : k ∉ kn := by
          have := hs.p3
          rw [List.nodup_append] at this
          exact fun hm => this.2.2 k hm k (by simp) rfl
        obtain ⟨hlt, o, ho⟩ := hi.lt hs hko
        have hkl : L.getD k false = false := by
          cases hb : L.getD k false with
          | false => rfl
          | true => exact absurd (hi.lsub k hb) hnk
        have hedge : ∀ e ∈ o.after.toList, Region.binds .any e = true → e.on ∈ kn := by
          obtain ⟨o2, ho2, hh⟩ := hs.p4 kn k _ hi.split
          rw [ho] at ho2; cases ho2; exact hh
        have hclk : ∀ j, Cl cl k j → j ∈ kn := by
          intro j hj
          have := (clo_closed hs (S := fun i => i ∈ kn ∨ i = k) (fun i hS => by
            rcases hS with hS | rfl
            · obtain ⟨o', ho', hh⟩ := hi.kn_closed hs i hS
              exact ⟨o', ho', fun e a b => .inl (hh e a b)⟩
            · exact ⟨o, ho, fun e a b => .inl (hedge e a b)⟩) k (.inr rfl) j hj)
          rcases this.1 with h | rfl
          · exact h
          · exact absurd this.2 (Nat.lt_irrefl _)
        have hlook : ∀ t ∈ readsOf all o, Look all cl ents r k t (lookR (entR ents r) t) := by
          intro t ht
          refine look_of hi hs ho (fun x hx => hx) (fun j hj => ⟨hclk j hj, fun x hx _ => hx⟩) ?_ t ht
          intro x hx hcx
          exact hnk (hi.kn_clo hs (hi.ent1 x hx).1 hcx).1
        have e0 : (((m0 :: ms0) ++ b) ++ c2) = (m0 :: ms0) ++ (b ++ c2) := by simp
        rw [e0] at hi hs
        rw [ho] at hr
        simp only at hr
        split at hr <;> try contradiction
        obtain ⟨g, v, hKv, hE⟩ := entryQ_val hr
        split at hKv <;> try contradiction
        rename_i hpath
        have hpath := pathOK_ok hpath
        obtain ⟨nf2, hnf2⟩ : ∃ nf2, nf2 = (match hfree (entR ents r) g o.op with | true => nf | false => k :: nf) := ⟨_, rfl⟩
        have hfr0 : k ∉ nf2 → ∀ h', entryQ P all (entR ents r) h' (fun g' v' => g' = g ∧ v' = v) o := by
          intro hk' h'
          rw [hnf2] at hk'
          split at hk'
          · rename_i hfr; exact entryQ_free hfr hE
          · simp at hk'
        have hinc : ∀ x ∈ nf, x ∈ nf2 := by
          intro x hx
          rw [hnf2]
          split
          · exact hx
          · exact List.mem_cons_of_mem _ hx
        have hold : ∀ k' ∈ kn, L.getD k' false = false → ∃ o g v Rk, all[k']? = some o ∧ entryQ P all Rk h (fun g' v' => g' = g ∧ v' = v) o ∧
                (∀ t ∈ readsOf all o, Look all cl ents r k' t (lookR Rk t)) ∧
                (∀ d, o.dst = some d → (k', d, g, v) ∈ ents ∧ d < n ∧ (∀ e ∈ g, e.1 ≠ d) ∧ ∀ t gg v, lookR r t = some (gg, v) → ∀ e ∈ gg, e.1 ≠ d) ∧
                (k' ∉ nf2 → ∀ h', entryQ P all Rk h' (fun g' v' => g' = g ∧ v' = v) o) := by
          intro k' hk' hl'
          obtain ⟨o', g2, v2, Rk, q1, q2, q3, q4, q5⟩ := hi.fact k' hk' hl'
          exact ⟨o', g2, v2, Rk, q1, q2, q3, q4, fun hh => q5 fun hm => hh (hinc _ hm)⟩
        cases hd : o.dst with
        | none =>
          rw [hd] at hKv
          have hi' := hi.enter (n := n) (P := P) (g := g) (v := v) (ents' := ents) (nf' := nf2) (h' := h) (L' := L) hs ho (by rw [hd]) hpath (.inl rfl) hold
            (fun _ => ⟨o, g, v, entR ents r, ho, hE, hlook, fun d hd' => (by rw [hd] at hd'; cases hd'), hfr0⟩)
          exact ihr _ _ _ _ _ ents h L g0 a w hs hi' (by rw [hnf2]; exact hKv) hc hu hf
        | some d =>
          rw [hd] at hKv
          unfold setP at hKv
          simp only at hKv
          split at hKv <;> try contradiction
          rename_i hdn
          rw [Nat.blt_eq] at hdn
          split at hKv <;> try contradiction
          rename_i hni
          obtain ⟨hn1, hn2⟩ := notIn_cons hni
          have hnr := notIn_entR hn2
          have hi' := hi.enter (n := n) (P := P) (g := g) (v := v) (ents' := (k, d, g, v) :: ents) (nf' := nf2) (h' := h) (L' := L) hs ho (by rw [hd]) hpath (.inl rfl) hold
            (fun _ => ⟨o, g, v, entR ents r, ho, hE, fun t ht => (hlook t ht).more (fun x hx => List.mem_cons_of_mem _ hx),
              fun d' hd' => (by rw [hd] at hd'; cases hd'; exact ⟨List.mem_cons_self, hdn, hn1, fun t gg vv hl => notIn_look hnr hl⟩), hfr0⟩)
          refine ihr _ _ _ _ _ ((k, d, g, v) :: ents) h L g0 a w hs hi' (by rw [hnf2]; exact hKv) ?_ hu hf
          have hE : entL L ((k, d, g, v) :: ents) = entL L ents := by
            unfold entL
            rw [List.filter_cons, if_neg (by simp only [hkl]; exact Bool.false_ne_true)]
          rw [hE]
          exact hc
      · -- those that are made
        obtain ⟨hcond, hE⟩ := hr
        simp only [Bool.and_eq_true] at hcond
        have hap := apartB_ok hcond.1
        have hlate := allSome_ok hcond.2
        have hm0 : m0 ∉ kn := by
          have := hs.p3
          rw [hi.split, List.nodup_append] at this
          exact fun hm => this.2.2 m0 hm m0 (by simp) rfl
        refine ⟨fun hre => ?_, fun i hm => ?_⟩
        · have := ready_none hi hs hre m0 (by rw [hi.split]; simp)
          exact absurd (hi.lsub m0 this) hm0
        · obtain ⟨m1, oi', hoi, m2⟩ := mem_ready.1 hm
          have hoi' : all[i]? = some oi' := by simpa using hoi
          have hlti : i < all.length := (List.getElem?_eq_some_iff.1 hoi').1
          have hil : L.getD i false = false := by rw [← getD_true_false (by rw [hi.lsize]; exact hlti)]; exact m1
          have he : ∀ e ∈ oi'.after.toList, Region.binds .any e = true → L.getD e.on false = true := fun e he hb => m2 e (by simpa using he) hb
          have hclo : ∀ j, Cl cl i j → L.getD j false = true := by
            intro j hj
            have := (clo_closed hs (S := fun x => L.getD x false = true ∨ x = i) (fun x hS => by
              rcases hS with hS | rfl
              · obtain ⟨o', ho', hh⟩ := hi.lclosed x hS
                exact ⟨o', ho', fun e a b => .inl (hh e a b)⟩
              · exact ⟨oi', hoi', fun e a b => .inl (he e a b)⟩) i (.inr rfl) j hj)
            rcases this.1 with h | rfl
            · exact h
            · exact absurd this.2 (Nat.lt_irrefl _)
          have hin : i ∈ kn ∨ i ∈ m0 :: ms0 ∨ i ∈ rest := by
            have := hs.p2 i hlti
            rw [hi.split] at this
            simpa [or_assoc] using this
          rcases hin with hik | him | hir
          · refine run_quiet hi hs hik hil (fun o2 ho2 => by rw [hoi'] at ho2; cases ho2; exact he) hc ?_
            intro g' a' w' hc' hst
            exact IH (f + 1) ord (m0 :: ms0) rest kn nf ents h _ g' a' w' hs (hi.list hik hoi' he) hr0 hc' (by have := unl_set hlti hi.lsize.symm hil; omega)
              (fun r2 h2 g2 a2 w2 hK hc2 hst2 => hf r2 h2 g2 a2 w2 hK hc2 (hst.trans hc.cw.own hst2))
          · have hA := eachM_ok hE i him
            rw [hoi'] at hA
            simp only [Bool.and_eq_true, Option.isNone_iff_eq_none] at hA
            obtain ⟨⟨hg1, ha1⟩, hA⟩ := hA
            obtain ⟨a1, b1, e1, e2⟩ := erase1_ok him
            have hs' : DrawS all cl (kn ++ (i :: (a1 ++ (b1 ++ rest)))) := DrawS.front (by have := hs; rw [hi.split, e1] at this; simpa using this) (fun x hx => hap i him x (by rw [e1]; simp [hx]))
            have hi' : DInv n P all cl (kn ++ (i :: (a1 ++ (b1 ++ rest)))) r kn (i :: (a1 ++ (b1 ++ rest))) nf ents h L := ⟨rfl, hi.lsize, hi.lsub, hi.lclosed, hi.ent1, hi.ent2, hi.ent3, hi.path, hi.fact⟩
            refine loud_step (Rg := fun l nf r' h' => l = erase1 i (m0 :: ms0) ++ rest ∧ regM P c n all cl K f (erase1 i (m0 :: ms0)) rest nf r' h') hs' hi' hoi' hoi hg1 ha1 hil he
              (opL_mono (fun v h' => setP_mono fun r' hh => ⟨by rw [e2]; simp, hh⟩) hA) hc hu ?_ hf
            rintro rest' kn nf ents h L g0 a w hi2 ⟨rfl, hr2⟩ hc2 hu2 hf2
            exact IH f _ (erase1 i (m0 :: ms0)) rest kn nf ents h L g0 a w hs' hi2 hr2 hc2 hu2 hf2
          · obtain ⟨x, hx, hcx⟩ := hlate i hir
            have h1 := hclo x hcx
            have h2 := hi.lsub x h1
            have := hs.p3
            rw [hi.split, List.nodup_append] at this
            exact absurd rfl (this.2.2 x h2 x (List.mem_append_left _ hx))
/-- over the places -/
def rmk (P : Program) (c : Cfg) (n : Nat) (all : List Oper) (K : Regs → Heap → Prop) : Nat → List Nat → List Nat → List Nat → Regs → Heap → Prop
  | 0, _, _, _, _, _ => False
  | f + 1, ms, rest, nf, r, h => match ms with
    | [] => rdraw P c n all K rest nf r h
    | m0 :: ms0 => match pickF (clos all []) (m0 :: ms0) rest with
      | some (q, rest2) => (match all[q]? with
        | none => False
        | some o => match loudD c o with
          | true => False
          | false => entryQ P all r h (aftD (fun nf r h => rmk P c n all K f (m0 :: ms0) rest2 nf r h) all q n o nf r h) o)
      | none => (apartB (clos all []) (m0 :: ms0) (m0 :: ms0) && allSome (clos all []) (m0 :: ms0) rest) = true ∧ eachM (fun m => match all[m]? with
        | none => False
        | some o => (o.guard.isNone && makes o.op) = true ∧ opL P r h (aftL (rmk P c n all K f (erase1 m (m0 :: ms0)) rest nf) n o.dst r) o.op) (m0 :: ms0)
theorem rmk_ok {c : Cfg} {K : Regs → Heap → Prop} : ∀ {f : Nat} {ms rest nf : List Nat} {r : Regs} {h : Heap}, rmk P c n all K f ms rest nf r h → regM P c n all (clos all []) K f ms rest nf r h
  | 0, ms, rest, nf, r, h, hh => hh.elim
  | f + 1, ms, rest, nf, r, h, hh => by
    unfold rmk at hh
    unfold regM
    cases ms with
    | nil => exact rdraw_ok (fun _ _ h => h) hh
    | cons m0 ms0 =>
      simp only at hh ⊢
      cases hp : pickF (clos all []) (m0 :: ms0) rest with
      | some x =>
        obtain ⟨q, rest2⟩ := x
        rw [hp] at hh
        simp only at hh ⊢
        cases ho : all[q]? with
        | none => rw [ho] at hh; exact hh.elim
        | some o =>
          rw [ho] at hh
          simp only at hh ⊢
          cases hl : loudD c o with
          | true => rw [hl] at hh; exact hh.elim
          | false =>
            rw [hl] at hh
            simp only at hh ⊢
            refine entryQ_mono (fun g v hv => ?_) hh
            unfold aftD at hv
            cases hp : pathOK (clos all []) all q g with
            | false => rw [hp] at hv; exact hv.elim
            | true =>
              rw [hp] at hv
              exact setP_mono (fun _ => rmk_ok) hv
      | none =>
        rw [hp] at hh
        simp only at hh ⊢
        refine ⟨hh.1, eachM_mono (fun m hm => ?_) hh.2⟩
        cases ho : all[m]? with
        | none => rw [ho] at hm; exact hm.elim
        | some o =>
          rw [ho] at hm
          exact ⟨hm.1, opL_mono (fun v h' => aftL_mono fun _ _ => rmk_ok) hm.2⟩
/-- what stands ahead of those that are made -/
def rpre (P : Program) (c : Cfg) (n : Nat) (all : List Oper) (K : Regs → Heap → Prop) (ms post : List Nat) : List Nat → List Nat → Regs → Heap → Prop
  | [], nf, r, h => rmk P c n all K 100 ms post nf r h
  | i :: pre, nf, r, h => match all[i]? with
    | none => False
    | some o => match loudD c o with
      | true => False
      | false => entryQ P all r h (aftD (rpre P c n all K ms post pre) all i n o nf r h) o
theorem draw_gameP {c : Cfg} {K : Regs → Heap → Prop} {Q : Exit → Act → World → Prop} {ms post : List Nat} {fuel : Nat} {g0 : Gh} {a : Act} {w : World} {L : Array Bool} (hs : DrawS all (clos all []) ord) : ∀ (pre kn nf : List Nat) (ents : List (Nat × Nat × G × AV)) (h : Heap),
    DInv n P all (clos all []) ord r kn (pre ++ (ms ++ post)) nf ents h L → rpre P c n all K ms post pre nf (entR ents r) h → Conc n X g0 (entR (entL L ents) r) h a w → unl all.length L ≤ fuel →
    (∀ r' h' g' a' w', K r' h' → Conc n X g' r' h' a' w' → Step X g0 h w g' h' w' → Q .normal a' w') → wpAny P .any all.toArray Q fuel L a w := by
  intro pre
  induction pre with
  | nil => intro kn nf ents h hi hr hc hu hf; exact draw_gameM fuel 100 ord ms post kn nf ents h L g0 a w hs hi (rmk_ok hr) hc hu hf
  | cons k pre ihr =>
    intro kn nf ents h hi hr hc hu hf
    have hko : k ∈ ord := by rw [hi.split]; simp
    have hnk : k ∉ kn := by
      have := hs.p3
      rw [hi.split, List.nodup_append] at this
      exact fun hm => this.2.2 k hm k (by simp) rfl
    obtain ⟨hlt, o, ho⟩ := hi.lt hs hko
    have hkl : L.getD k false = false := by
      cases hb : L.getD k false with
      | false => rfl
      | true => exact absurd (hi.lsub k hb) hnk
    have hedge : ∀ e ∈ o.after.toList, Region.binds .any e = true → e.on ∈ kn := by
      obtain ⟨o2, ho2, hh⟩ := hs.p4 kn k _ hi.split
      rw [ho] at ho2; cases ho2; exact hh
    have hclk : ∀ j, Cl (clos all []) k j → j ∈ kn := by
      intro j hj
      have := (clo_closed hs (S := fun i => i ∈ kn ∨ i = k) (fun i hS => by
        rcases hS with hS | rfl
        · obtain ⟨o', ho', hh⟩ := hi.kn_closed hs i hS
          exact ⟨o', ho', fun e a b => .inl (hh e a b)⟩
        · exact ⟨o, ho, fun e a b => .inl (hedge e a b)⟩) k (.inr rfl) j hj)
      rcases this.1 with h | rfl
      · exact h
      · exact absurd this.2 (Nat.lt_irrefl _)
    have hlook : ∀ t ∈ readsOf all o, Look all (clos all []) ents r k t (lookR (entR ents r) t) := by
      intro t ht
      refine look_of hi hs ho (fun x hx => hx) (fun j hj => ⟨hclk j hj, fun x hx _ => hx⟩) ?_ t ht
      intro x hx hcx
      exact hnk (hi.kn_clo hs (hi.ent1 x hx).1 hcx).1
    unfold rpre at hr
    rw [ho] at hr
    simp only at hr
    split at hr <;> try contradiction
    obtain ⟨g, v, hKv, hE⟩ := entryQ_val hr
    unfold aftD at hKv
    split at hKv <;> try contradiction
    rename_i hpath
    have hpath := pathOK_ok hpath
    obtain ⟨nf2, hnf2⟩ : ∃ nf2, nf2 = (match hfree (entR ents r) g o.op with | true => nf | false => k :: nf) := ⟨_, rfl⟩
    have hfr0 : k ∉ nf2 → ∀ h', entryQ P all (entR ents r) h' (fun g' v' => g' = g ∧ v' = v) o := by
      intro hk' h'
      rw [hnf2] at hk'
      split at hk'
      · rename_i hfr; exact entryQ_free hfr hE
      · simp at hk'
    have hinc : ∀ x ∈ nf, x ∈ nf2 := by
      intro x hx
      rw [hnf2]
      split
      · exact hx
      · exact List.mem_cons_of_mem _ hx
    have hold : ∀ k' ∈ kn, L.getD k' false = false → ∃ o g v Rk, all[k']? = some o ∧ entryQ P all Rk h (fun g' v' => g' = g ∧ v' = v) o ∧
            (∀ t ∈ readsOf all o, Look all (clos all []) ents r k' t (lookR Rk t)) ∧
            (∀ d, o.dst = some d → (k', d, g, v) ∈ ents ∧ d < n ∧ (∀ e ∈ g, e.1 ≠ d) ∧ ∀ t gg v, lookR r t = some (gg, v) → ∀ e ∈ gg, e.1 ≠ d) ∧
            (k' ∉ nf2 → ∀ h', entryQ P all Rk h' (fun g' v' => g' = g ∧ v' = v) o) := by
      intro k' hk' hl'
      obtain ⟨o', g2, v2, Rk, q1, q2, q3, q4, q5⟩ := hi.fact k' hk' hl'
      exact ⟨o', g2, v2, Rk, q1, q2, q3, q4, fun hh => q5 fun hm => hh (hinc _ hm)⟩
    cases hd : o.dst with
    | none =>
      rw [hd] at hKv
      have hi' := hi.enter (n := n) (P := P) (g := g) (v := v) (ents' := ents) (nf' := nf2) (h' := h) (L' := L) hs ho (by rw [hd]) hpath (.inl rfl) hold
        (fun _ => ⟨o, g, v, entR ents r, ho, hE, hlook, fun d hd' => (by rw [hd] at hd'; cases hd'), hfr0⟩)
      exact ihr _ _ ents h hi' (by rw [hnf2]; exact hKv) hc hu hf
    | some d =>
      rw [hd] at hKv
      unfold setP at hKv
      simp only at hKv
      split at hKv <;> try contradiction
      rename_i hdn
      rw [Nat.blt_eq] at hdn
      split at hKv <;> try contradiction
      rename_i hni
      obtain ⟨hn1, hn2⟩ := notIn_cons hni
      have hnr := notIn_entR hn2
      have hi' := hi.enter (n := n) (P := P) (g := g) (v := v) (ents' := (k, d, g, v) :: ents) (nf' := nf2) (h' := h) (L' := L) hs ho (by rw [hd]) hpath (.inl rfl) hold
        (fun _ => ⟨o, g, v, entR ents r, ho, hE, fun t ht => (hlook t ht).more (fun x hx => List.mem_cons_of_mem _ hx),
          fun d' hd' => (by rw [hd] at hd'; cases hd'; exact ⟨List.mem_cons_self, hdn, hn1, fun t gg vv hl => notIn_look hnr hl⟩), hfr0⟩)
      refine ihr _ _ ((k, d, g, v) :: ents) h hi' (by rw [hnf2]; exact hKv) ?_ hu hf
      have hE : entL L ((k, d, g, v) :: ents) = entL L ents := by
        unfold entL
        rw [List.filter_cons, if_neg (by simp only [hkl]; exact Bool.false_ne_true)]
      rw [hE]
      exact hc
/-- a drawn region in which several things are made: pre, then those, then the rest -/
theorem make_region {c : Cfg} {F : Func} {E : En} {p : List Bool} {S : List Fr} {k id : Nat} {ops : Array Oper} {r : Regs} {h : Heap} (hcat : cat F p = .region id ops true) (hm : P.follows .mixedOrders = true) (pre ms post : List Nat) (fz : List Nat)
    (hd : drawOK (opsAt F p) (pre ++ (ms ++ post)) = true)
    (hr : rpre P c E.n (opsAt F p) (fun r' h' => frzP (fun r'' h'' => normK r'' (fun r3 => TurnTo (run P c F E k (.ex .normal) S) r3 h'') c.keep) fz r' h') ms post pre [] r h) :
    Holds P E.n E.X (cat F p) (fun e r h => run P c F E k (.ex e) S r h) r h := by
  have ho := opsAt_eq hcat
  rw [ho] at hd hr
  rw [hcat]
  refine ⟨fun g a w hc => ?_⟩
  refine wp_region_any hm ?_
  obtain ⟨dc, ds⟩ := hc.cw.drew
  have hs := drawS hd
  have hc' : Conc E.n E.X g r h a w.drew := hc.step dc ds
  have hi : DInv E.n P ops.toList (clos ops.toList []) (pre ++ (ms ++ post)) r [] (pre ++ (ms ++ post)) [] [] h (Array.replicate ops.size false) := by
    have hrep : ∀ i, (Array.replicate ops.size false).getD i false = false := by
      intro i
      by_cases hi : i < ops.size <;> simp [hi]
    refine ⟨rfl, by simp, ?_, ?_, by simp, by simp, by simp, by simp, by simp⟩
    · intro i hL; rw [hrep i] at hL; cases hL
    · intro i hL; rw [hrep i] at hL; cases hL
  have := draw_gameP (n := E.n) (X := E.X) (r := r) (c := c) (fuel := ops.size) (g0 := g) (a := a) (w := w.drew) (L := Array.replicate ops.size false) (Q := fun e a' w' => ∃ ex g' r' h', e = Ex.toExit ex ∧ run P c F E k (.ex ex) S r' h' ∧ Conc E.n E.X g' r' h' a' w' ∧ Step E.X g h w g' h' w') hs pre [] [] [] h
    hi hr hc' (by unfold unl; exact Nat.le_trans (List.length_filter_le _ _) (by simp)) (by
      intro r' h' g' a' w' hK hc2 hst
      obtain ⟨r2, h2, hK, hc3, hst3⟩ := frzP_ok hK hc2
      obtain ⟨r3, hK, hl⟩ := normK_ok (k := fun r3 => TurnTo (run P c F E k (.ex .normal) S) r3 h2) hK
      obtain ⟨r4, h4, ht, hK⟩ := hK
      obtain ⟨g4, hc4, hst4⟩ := ht _ _ _ _ _ (hc3.less hl)
      exact ⟨.normal, g4, r4, h4, rfl, hK, hc4, ds.trans hc.cw.own (hst.trans hc'.cw.own (hst3.trans hc2.cw.own hst4))⟩)
  exact this
theorem byKey3 {A : Prop} {P : Nat → Nat → Nat → Prop} (h1 : (∀ a b c, P a b c) → A) (h2 : ∀ a b c, P a b c) : A := h1 h2
end Go.Abs
/-
  DERIVED: THE SHELF's CONTRACTS AT THIS DUMP, IN PLAIN WORDS (tools/lay-plain.mjs out of 'YtbgnfchlelhbeaaSoA.lean', which tools/lay-shelf.mjs wrote): THE SAME DECLARATIONS UNDER THE SAME NAMES: 'import', 'namespace', 'open', 'def', 'theorem' AND NOTHING ELSE: no command of the shelf's: FOR A HAND-IN. Each laying: the table of numbers ('.._ren') and one theorem, a field a fact of the dump's own or the kernel's comparison; each contract: ONE APPLICATION.
-/
namespace Go.Proofs
open Go.Shelf
def Try.lays189_ren : Go.Shelf.Ren := ⟨fun | 189 => 91 | 125 => 118 | 257 => 117 | 128 => 138 | 129 => 139 | 294 => 129 | 295 => 130 | 296 => 131 | 297 => 132 | 298 => 133 | 299 => 134 | 216 => 135 | 300 => 136 | 301 => 137 | 328 => 144 | 329 => 145 | 330 => 146 | 331 => 147 | 332 => 148 | 215 => 149 | 343 => 150 | n => n, fun | 28 => 26 | 3 => 3 | 46 => 175 | 0 => 0 | 51 => 192 | 53 => 194 | 4 => 4 | 183 => 184 | 182 => 183 | 131 => 189 | 5 => 5 | 9 => 9 | 218 => 200 | 222 => 204 | 228 => 206 | 229 => 207 | n => n, fun | n => n⟩
theorem Try.lays189 : Go.Proofs.Lays.n189 Try.prog Try.lays189_ren := {
  mixed := by kernel_rfl
  f125 := Try.func118.trans (congrArg some (by kernel_rfl))
  f128 := Try.func138.trans (congrArg some (by kernel_rfl))
  f129 := Try.func139.trans (congrArg some (by kernel_rfl))
  f189 := Try.func91.trans (congrArg some (by kernel_rfl))
  f215 := Try.func149.trans (congrArg some (by kernel_rfl))
  f216 := Try.func135.trans (congrArg some (by kernel_rfl))
  f257 := Try.func117.trans (congrArg some (by kernel_rfl))
  f294 := Try.func129.trans (congrArg some (by kernel_rfl))
  f295 := Try.func130.trans (congrArg some (by kernel_rfl))
  f296 := Try.func131.trans (congrArg some (by kernel_rfl))
  f297 := Try.func132.trans (congrArg some (by kernel_rfl))
  f298 := Try.func133.trans (congrArg some (by kernel_rfl))
  f299 := Try.func134.trans (congrArg some (by kernel_rfl))
  f300 := Try.func136.trans (congrArg some (by kernel_rfl))
  f301 := Try.func137.trans (congrArg some (by kernel_rfl))
  f328 := Try.func144.trans (congrArg some (by kernel_rfl))
  f329 := Try.func145.trans (congrArg some (by kernel_rfl))
  f330 := Try.func146.trans (congrArg some (by kernel_rfl))
  f331 := Try.func147.trans (congrArg some (by kernel_rfl))
  f332 := Try.func148.trans (congrArg some (by kernel_rfl))
  f343 := Try.func150.trans (congrArg some (by kernel_rfl))
  t0 := Try.underlying0
  a0 := Try.isAgg0
  z0 := Try.sizeOf0
  v0 := Try.zeroValue0
  t3 := Try.underlying3
  a3 := Try.isAgg3
  z3 := Try.sizeOf3
  v3 := Try.zeroValue3
  t4 := Try.underlying4
  a4 := Try.isAgg4
  z4 := Try.sizeOf4
  v4 := Try.zeroValue4
  t5 := Try.underlying5
  a5 := Try.isAgg5
  z5 := Try.sizeOf5
  v5 := Try.zeroValue5
  t9 := Try.underlying9
  a9 := Try.isAgg9
  z9 := Try.sizeOf9
  v9 := Try.zeroValue9
  t28 := Try.underlying26
  a28 := Try.isAgg26
  z28 := Try.sizeOf26
  v28 := Try.zeroValue26
  t46 := Try.underlying175
  a46 := Try.isAgg175
  z46 := Try.sizeOf175
  v46 := Try.zeroValue175
  t51 := Try.underlying192
  a51 := Try.isAgg192
  z51 := Try.sizeOf192
  v51 := Try.zeroValue192
  t53 := Try.underlying194
  a53 := Try.isAgg194
  z53 := Try.sizeOf194
  v53 := Try.zeroValue194
  t131 := Try.underlying189
  a131 := Try.isAgg189
  z131 := Try.sizeOf189
  v131 := Try.zeroValue189
  t182 := Try.underlying183
  a182 := Try.isAgg183
  z182 := Try.sizeOf183
  v182 := Try.zeroValue183
  t183 := Try.underlying184
  a183 := Try.isAgg184
  z183 := Try.sizeOf184
  v183 := Try.zeroValue184
  t218 := Try.underlying200
  a218 := Try.isAgg200
  z218 := Try.sizeOf200
  v218 := Try.zeroValue200
  t222 := Try.underlying204
  a222 := Try.isAgg204
  z222 := Try.sizeOf204
  v222 := Try.zeroValue204
  t228 := Try.underlying206
  a228 := Try.isAgg206
  z228 := Try.sizeOf206
  v228 := Try.zeroValue206
  t229 := Try.underlying207
  a229 := Try.isAgg207
  z229 := Try.sizeOf207
  v229 := Try.zeroValue207 }
open Go.Sort Go.RowKit in
theorem Try.slices_Sort_int (blk off cap : Nat) (zs : List Int) (w : World) (hH : Holds (Value.int .i64) w blk off zs.toArray) (hblk : blk < w.heap.size) (hsz : zs.length < 4611686018427387904) :
    Calls Try.prog 91 #[.slice (some ⟨blk, off, none⟩) zs.length cap] w fun e w' =>
      e = .returned (.tuple #[]) ∧ ∃ n os, w' = grow (putRow (Value.int .i64) (Sort.ahead w n) blk off (zs.mergeSort fun x y => decide (x ≤ y)).toArray) os := Any.slices_Sort_int Try.lays189 blk off cap zs w hH hblk hsz
end Go.Proofs
/-
  The abstract layer, part Z: the library's sort, by its contract.
-/
set_option linter.unusedVariables false
set_option linter.unusedSimpArgs false
namespace Go.Abs
open Go Go.Sort
variable {P : Program} {X : Nat → Prop} {g0 : Gh} {h : Heap} {w : World}
/-- an own row turned, in a world that is otherwise as it was, or has more -/
theorem vec_turned {l1 l2 : Heap} {b : Nat} {cs l : List AV} {us : List Value} {w' : World} {p : Addr} {cc cc' : Array Value} {t : TypeId} (hc : CW X g0 (l1 ++ (b, .vec cs) :: l2) w)
    (h1 : g0.pl b = some p) (h4 : w.heap[p.block]? = some (.cells cc t (0, 0))) (hlen : l.length = cs.length)
    (e7 : w'.os = w.os) (e9 : w'.output = w.output) (e6 : w.heap.size ≤ w'.heap.size) (e5 : ∀ blk, blk < w.heap.size → blk ≠ p.block → w'.heap[blk]? = w.heap[blk]?)
    (e1 : w'.heap[p.block]? = some (.cells cc' t (0, 0))) (e2 : cc'.size = cc.size) (e4 : ∀ (j : Nat) u, us[j]? = some u → cc'[p.off + j]? = some u)
    (hus : RepVs ⟨g0, live X (l1 ++ (b, .vec cs) :: l2), w⟩ l us) (ho : ∀ u ∈ us, u.oneCell' = true) :
    CW X g0 (l1 ++ (b, .vec l) :: l2) w' ∧ Step X g0 (l1 ++ (b, .vec cs) :: l2) w g0 (l1 ++ (b, .vec l) :: l2) w' := by
  have hob := hc.obj b (.vec cs) (by simp)
  obtain ⟨p', cc0, t0, a1, h2, h3, a4, h5, h6⟩ := hob
  simp only at a1 h3 a4
  rw [h1] at a1; cases a1
  rw [h4] at a4; cases a4
  have hul := hus.length
  have hbk : b ∈ keys (l1 ++ (b, .vec cs) :: l2) := by rw [keys_mem]; exact .inl rfl
  have hst : Step X g0 (l1 ++ (b, .vec cs) :: l2) w g0 (l1 ++ (b, .vec l) :: l2) w' := by
    refine ⟨e7, e9, e9, e6, fun _ _ e => e, fun _ _ _ e _ => e, fun _ _ _ e _ => e, fun _ _ e => e, ?_, ?_, ?_⟩
    · intro blk hb hn
      have hne : blk ≠ p.block := fun e => hn b 0 (e ▸ h3) hbk
      refine ⟨e5 blk hb hne, fun k s hk hm => hn k s hk ?_⟩
      rw [keys_mem] at hm ⊢; exact hm
    · intro blk k s hk hm dd tt ff hdd
      by_cases e : blk = p.block
      · subst e
        rw [h3] at hk; cases hk
        rw [h4] at hdd; cases hdd
        exact ⟨cc', e1, e2, fun o ho => by omega⟩
      · exact ⟨dd, (e5 blk (hc.own _ _ _ hk) e).trans hdd, rfl, fun _ _ => rfl⟩
    · intro blk k s hk _ k' s' hk' _
      rw [hk] at hk'; cases hk'; exact Nat.le_refl _
  refine ⟨?_, hst⟩
  refine hc.replace hst (fun blk k s hk => by have := hc.own _ _ _ hk; omega) (.inl rfl) (fun k hk => .inr hk) (fun blk s k hk => .inr ⟨blk, s, hk⟩) ?_ ?_
  · intro blk k s hk hm
    have hne : blk ≠ p.block := by
      intro e; rw [e, h3] at hk; cases hk
      exact hc.notmem hm
    exact ⟨e5 blk (hc.own _ _ _ hk) hne, rfl⟩
  · refine ⟨p, cc', t, h1, h2, h3, e1, by omega, ?_⟩
    intro i x hx
    obtain ⟨u, hu, hr⟩ := hus.get _ _ hx
    exact ⟨u, e4 i u hu, ho u (List.mem_of_getElem? hu), Rep.mono (Step.le hst) _ _ hr⟩
def intsV (l : List Int) : List AV := l.map (AV.int .i64)
/-- slices.Sort at ints, of an own row -/
theorem sort_acalls {f : FuncId} (hf : Callable P f) (hs : ∀ (blk off cap : Nat) (zs : List Int) (w : World), Sort.Holds (Value.int .i64) w blk off zs.toArray → blk < w.heap.size → zs.length < 4611686018427387904 →
      Calls P f #[.slice (some ⟨blk, off, none⟩) zs.length cap] w fun e w' =>
        e = .returned (.tuple #[]) ∧ ∃ n os, w' = grow (putRow (Value.int .i64) (Sort.ahead w n) blk off (zs.mergeSort fun x y => decide (x ≤ y)).toArray) os)
    (b : Nat) (l : List Int) : ACalls P f [.osl b 0 l.length 1] [(b, .vec (intsV l))] (fun v h' => v = .tup [] ∧ h' = [(b, .vec (intsV (l.mergeSort fun x y => decide (x ≤ y))))]) := by
  refine ⟨hf, fun X g w us hc hr => ?_⟩
  simp only [RepVs] at hr
  obtain ⟨u, r, hus, hx, hr⟩ := hr
  subst hr
  rw [Rep] at hx
  obtain ⟨p, cap, hp, hsp, rfl, x2, x3, x4, x5⟩ := hx
  simp only at hp x5
  obtain ⟨q, cc, t, h1, h2, h3, h4, h5, h6⟩ := hc.obj b _ (List.mem_singleton.2 rfl)
  simp only at h1 h3 h4
  rw [hp] at h1; cases h1
  have hcell : ∀ j n, l[j]? = some n → cc[p.off + j]? = some (.int .i64 n) ∧ IntKind.i64.has n := by
    intro j n hj
    obtain ⟨u, a1, a2, a3⟩ := h6 j (.int .i64 n) (by simp [intsV, hj])
    rw [Rep] at a3
    rw [a3.1] at a1
    exact ⟨a1, a3.2⟩
  have hlt : p.block < w.heap.size := (Array.getElem?_eq_some_iff.1 h4).1
  have hH : Sort.Holds (Value.int .i64) w p.block (p.off + 0) l.toArray := by
    intro j hj
    simp only [List.size_toArray] at hj
    have := (hcell j l[j] (List.getElem?_eq_getElem hj)).1
    refine ⟨?_, frozen_of_row w p.block _ cc t h4⟩
    rw [cell_of_row w p.block _ cc t _ h4, Nat.add_zero, this]
    congr 2
    rw [getElem!_pos l.toArray j (by simpa using hj)]; simp
  have hu : us = #[.slice (some ⟨p.block, p.off + 0, none⟩) l.length cap] := by
    rw [← Array.toList_inj]; simpa using hus
  subst hu
  refine (hs p.block (p.off + 0) cap l w hH hlt (by unfold LMAX at x3; omega)).mono ?_
  rintro e w' ⟨rfl, n, os, rfl⟩
  have hperm := List.mergeSort_perm l fun x y => decide (x ≤ y)
  generalize hS : (l.mergeSort fun x y => decide (x ≤ y)) = S at hperm
  have hSl : S.length = l.length := hperm.length_eq
  have hheap : (putRow (Value.int .i64) (Sort.ahead w n) p.block (p.off + 0) S.toArray).heap = w.heap.modify p.block (onCells (putCells (Value.int .i64) (p.off + 0) S.toArray)) := rfl
  have hHas : ∀ x ∈ S, IntKind.i64.has x := by
    intro x hx
    obtain ⟨j, hj⟩ := List.mem_iff_getElem?.1 (hperm.mem_iff.1 hx)
    exact (hcell j x hj).2
  obtain ⟨c1, s1⟩ := vec_turned (l1 := []) (l2 := []) (l := intsV S) (us := S.map (Value.int .i64)) (w' := grow (putRow (Value.int .i64) (Sort.ahead w n) p.block (p.off + 0) S.toArray) os)
    (cc' := putCells (Value.int .i64) (p.off + 0) S.toArray cc) hc hp h4 (by simp [intsV, hSl]) rfl rfl
    (by simp [grow]) (fun blk hb hne => by rw [heap_grow_old _ _ (by simpa using hb), hheap, Array.getElem?_modify, if_neg (Ne.symm hne)])
    (by rw [heap_grow_old _ _ (by simpa using hlt), hheap, Array.getElem?_modify, if_pos rfl, h4]; rfl) (by simp [putCells])
    (by
      intro j u hj
      simp only [List.getElem?_map, Option.map_eq_some_iff] at hj
      obtain ⟨n, hn, rfl⟩ := hj
      have hjl : j < S.length := (List.getElem?_eq_some_iff.1 hn).1
      have h5' : p.off + l.length ≤ cc.size := by simpa [intsV] using h5
      have hlt2 : p.off + j < cc.size := by omega
      simp only [putCells, Array.getElem?_mapIdx, Array.getElem?_eq_getElem hlt2, Option.map_some, Nat.add_zero, List.size_toArray]
      rw [if_pos ⟨by omega, by omega⟩]
      congr 2
      rw [show p.off + j - p.off = j from by omega, getElem!_pos S.toArray j (by simpa using hjl)]
      simpa using (List.getElem?_eq_some_iff.1 hn).2)
    (by
      have key : ∀ S : List Int, (∀ x ∈ S, IntKind.i64.has x) → RepVs ⟨g, live X ([] ++ (b, .vec (intsV l)) :: []), w⟩ (intsV S) (S.map (Value.int .i64)) := by
        intro S
        induction S with
        | nil => intro _; simp [intsV, RepVs]
        | cons x S ih =>
          intro hh
          simp only [intsV, List.map_cons, RepVs]
          exact ⟨_, _, rfl, by rw [Rep]; exact ⟨rfl, hh x (by simp)⟩, ih fun y hy => hh y (by simp [hy])⟩
      exact key S hHas)
    (by intro u hu; obtain ⟨x, _, rfl⟩ := List.mem_map.1 hu; rfl)
  exact ⟨.tup [], .tuple #[], g, _, rfl, ⟨rfl, rfl⟩, c1, by rw [Rep]; exact ⟨#[], rfl, by simp [RepVs]⟩, s1⟩
end Go.Abs
/-
  The bridge, from the statements' readings to the abstract layer: what is read as plain data is there, and a call that answers true and leaves the old memory alone keeps the statement.
-/
set_option linter.unusedVariables false
namespace Go.Proofs.Ytbgnfchlelhbeaa.Br
open Go Go.Abs Go.ChangeShapes Go.WideShapes Go.RowKit
/-- the cells of plain data: their types' forms, nothing longer than B -/
inductive Sh (P : Program) (B : Nat) : TypeId → List AV → Prop
  | bool {t : TypeId} {b : Bool} : P.underlying t = some .bool → Sh P B t [.bool b]
  | int {t : TypeId} {k : IntKind} {n : Int} : P.underlying t = some (.int k) → (Lit.int k n).wf = true → Sh P B t [.int k n]
  | str {t : TypeId} {s : List UInt8} : P.underlying t = some .string → s.length ≤ B → Sh P B t [.str s]
  | slice {t e : TypeId} {ys : List (List AV)} : P.underlying t = some (.slice e) → ys.length ≤ B → (∀ y ∈ ys, Sh P B e y) → Sh P B t [.sl (P.cellsOf e) none ys]
  | struct {t : TypeId} {fs : Array Field} {parts : List (List AV)} : P.underlying t = some (.struct fs) → parts.length = fs.toList.length →
      (∀ (i : Nat) f p, fs.toList[i]? = some f → parts[i]? = some p → Sh P B f.type p) → Sh P B t parts.flatten
/-- types of plain data -/
def flat (P : Program) : Nat → TypeId → Bool
  | 0, _ => false
  | n + 1, t => match P.underlying t with
    | some .bool => true
    | some (.int _) => true
    | some .string => true
    | some (.slice e) => flat P n e && Nat.ble 1 (P.cellsOf e)
    | some (.struct fs) => fs.toList.all fun f => flat P n f.type
    | _ => false
def c0 (W : World) : Cx := ⟨⟨fun _ => none, fun _ => none⟩, live (fun _ => False) [], W⟩
theorem fr0 (W : World) (b o : Nat) : (c0 W).fr b o := by intro k s h; cases h
section
variable {H : Type} {enc : TypeId × Value → H} {P : Program} {W : World}
theorem mapM_nth {α β : Type} {f : α → Option β} : ∀ {l : List α} {r : List β}, l.mapM f = some r → r.length = l.length ∧ ∀ (i : Nat) a, l[i]? = some a → ∃ b, f a = some b ∧ r[i]? = some b := by
  intro l
  induction l with
  | nil => intro r h; simp at h; subst h; exact ⟨rfl, fun i a h => by cases h⟩
  | cons x l ih =>
    intro r h
    simp only [List.mapM_cons, Option.bind_eq_bind, Option.bind_eq_some_iff, Option.pure_def] at h
    obtain ⟨b, hb, r', hr', h⟩ := h
    cases h
    obtain ⟨h1, h2⟩ := ih hr'
    refine ⟨by simp [h1], fun i a ha => ?_⟩
    cases i with
    | zero => cases ha; exact ⟨b, hb, rfl⟩
    | succ i => exact h2 i a (by simpa using ha)
theorem bulk_get (l : List (DataW H)) (d : DataW H) (h : d ∈ l) : Rows.uptoBulk d ≤ Rows.uptoBulkAll l := by
  induction l with
  | nil => cases h
  | cons x r ih =>
    simp only [Rows.uptoBulkAll]
    cases List.mem_cons.1 h with
    | inl e => subst e; omega
    | inr e => have := ih e; omega
theorem bulk_pos (d : DataW H) : 1 ≤ Rows.uptoBulk d := by
  cases d with
  | lit l => cases l <;> simp [Rows.uptoBulk]
  | _ => simp [Rows.uptoBulk]
theorem bulk_len (l : List (DataW H)) : l.length ≤ Rows.uptoBulkAll l := by
  induction l with
  | nil => simp [Rows.uptoBulkAll]
  | cons x r ih => have := bulk_pos x; simp only [Rows.uptoBulkAll, List.length_cons]; omega
theorem add_block (a : Addr) (n : Nat) : (a.add n).block = a.block := by unfold Addr.add; split <;> rfl
theorem add_off (a : Addr) (n : Nat) : (a.add n).off = a.off + n := by
  unfold Addr.add
  split
  · rename_i h; subst h; rfl
  · rfl
theorem cell_add {a : Addr} {n : Nat} {u : Value} (h : W.cell? (a.add n) = some u) : W.cell? ⟨a.block, a.off + n, none⟩ = some u := by
  unfold World.cell? at h ⊢
  rw [add_block, add_off] at h
  split at h
  · rename_i hb
    simp only [hb]
    split at h
    · cases h
    · simpa using h
  · cases h
theorem cells_repCs {a : Addr} {n : Nat} {us : List Value} {xs : List AV} (h : W.cells? 0 a n = some us) (hr : RepVs (c0 W) xs us) (h1 : ∀ u ∈ us, u.oneCell' = true) :
    us.length = n ∧ (0 < n → a.spot = none) ∧ RepCs (c0 W) xs a.block a.off := by
  unfold World.cells? at h
  rw [if_pos (Nat.zero_le _)] at h
  obtain ⟨hl, hg⟩ := mapM_nth h
  simp at hl
  refine ⟨hl, fun hn => ?_, ?_⟩
  · obtain ⟨u, hu, _⟩ := hg 0 0 (by simp [hn])
    unfold World.cell? at hu
    split at hu
    · split at hu
      · cases hu
      · rename_i hs
        simpa [Addr.add] using hs
    · cases hu
  · have key : ∀ (xs : List AV) (us : List Value) (o : Nat), RepVs (c0 W) xs us → (∀ u ∈ us, u.oneCell' = true) → (∀ (i : Nat) u, us[i]? = some u → W.cell? ⟨a.block, a.off + (o + i), none⟩ = some u) → RepCs (c0 W) xs a.block (a.off + o) := by
      intro xs
      induction xs with
      | nil => intro us o _ _ _; simp [RepCs]
      | cons x xs ih =>
        intro us o hr h1 hc
        simp only [RepVs] at hr
        obtain ⟨u, r, rfl, hu, hr⟩ := hr
        simp only [RepCs]
        refine ⟨⟨u, hc 0 u rfl, h1 u (by simp), fr0 W _ _, hu⟩, ?_⟩
        have := ih r (o + 1) hr (fun u hu => h1 u (by simp [hu])) (fun i u hi => by
          have := hc (i + 1) u (by simpa using hi)
          rwa [show o + (i + 1) = o + 1 + i from by omega] at this)
        rwa [show a.off + o + 1 = a.off + (o + 1) from rfl]
    have := key xs us 0 hr h1 (fun i u hi => by
      have hlt := (List.getElem?_eq_some_iff.1 hi).1
      obtain ⟨u', hu', hi'⟩ := hg i i (List.getElem?_range (by omega))
      rw [hi] at hi'
      cases hi'
      rw [show a.off + (0 + i) = a.off + i from by omega]
      exact cell_add hu')
    simpa using this
theorem wf_has {k : IntKind} {n : Int} (h : (Lit.int k n).wf = true) : k.has n := by
  simp only [Lit.wf, Bool.and_eq_true, decide_eq_true_eq] at h
  simpa [IntKind.has] using h
/-- a row cut in pieces that lie side by side -/
theorem cut_row (K : Kids P (· < P.types.size)) {t : TypeId} {fs : Array Field} (ht : t < P.types.size) (hu : P.underlying t = some (.struct fs)) {cs : List Value} (hl : cs.length = P.cellsOf t) :
    (fs.toList.map fun f => (cs.drop f.offset).take (P.cellsOf f.type)).flatten = cs := by
  obtain ⟨_, h2, h3⟩ := K.struct ht hu
  have key : ∀ (l : List Field) (o : Nat), (∀ (j : Nat) f, l[j]? = some f → f.offset = o + ((l.take j).map fun f => P.cellsOf f.type).sum) → (l.map fun f : Field => (cs.drop f.offset).take (P.cellsOf f.type)).flatten = (cs.drop o).take ((l.map fun f => P.cellsOf f.type).sum) := by
    intro l
    induction l with
    | nil => intro o _; simp
    | cons f l ih =>
      intro o h
      have h0 := h 0 f rfl
      simp at h0
      simp only [List.map_cons, List.flatten_cons, List.sum_cons]
      rw [ih (o + P.cellsOf f.type) (fun j g hj => by
        have := h (j + 1) g (by simpa using hj)
        simp only [List.take_succ_cons, List.map_cons, List.sum_cons] at this
        omega), h0, List.take_add, List.drop_drop]
  rw [key fs.toList 0 (fun j f hj => by simpa using h3 j f hj), ← h2, ← hl]
  simp
/-- what is read as plain data is there -/
theorem rep_of_trod (K : Kids P (· < P.types.size)) {B : Nat} (hB : B ≤ LMAX) : ∀ (m n : Nat) (t : TypeId) (cs : List Value) (x : DataW H × List MemPlace), flat P m t = true → t < P.types.size →
    DataW.trod enc P W 0 (fun _ => true) true n t cs = some x → Rows.uptoBulk x.1 ≤ B → ∃ xs, RepVs (c0 W) xs cs ∧ Sh P B t xs ∧ ∀ u ∈ cs, u.oneCell' = true
  | 0, n, t, cs, x, hf, _, _, _ => by cases hf
  | m + 1, n, t, cs, x, hf, hlt, h, hb => by
    unfold flat at hf
    split at hf
    · rename_i hu
      obtain ⟨b, rfl, rfl⟩ := DataW.trod_bool hu h
      exact ⟨[.bool b], by simp [RepVs, Rep], .bool hu, by simp [Value.oneCell']⟩
    · rename_i k hu
      obtain ⟨n, rfl, rfl, hw⟩ := DataW.trod_int hu h
      exact ⟨[.int k n], by simp [RepVs, Rep, wf_has hw], .int hu hw, by simp [Value.oneCell']⟩
    · rename_i hu
      obtain ⟨s, rfl, rfl, hm⟩ := DataW.trod_string hu h
      have hb' : s.data.toList.length ≤ B := by simp [Rows.uptoBulk] at hb; simp; omega
      exact ⟨[.str s.data.toList], by simp only [RepVs, Rep]; exact ⟨_, _, rfl, ⟨s, rfl, rfl, by omega⟩, rfl⟩, .str hu hb', by simp [Value.oneCell']⟩
    · rename_i e hu
      simp only [Bool.and_eq_true] at hf
      have hk : 0 < P.cellsOf e := Nat.le_of_ble_eq_true hf.2
      have he : e < P.types.size := K.slice hlt hu
      rcases DataW.trod_slice hu h with ⟨rfl, rfl⟩ | ⟨a, len, cap, elems, rest, n', rfl, rfl, rfl, _, hlc, hcm, hel, hge, _, _⟩
      · refine ⟨[.sl (P.cellsOf e) none []], ?_, .slice hu (Nat.zero_le _) (by simp), by simp [Value.oneCell']⟩
        simp only [RepVs]
        exact ⟨_, _, rfl, VLe.nil hk _ _ (by simp [Rep]), rfl⟩
      · have hbulk : elems.length ≤ B ∧ ∀ y ∈ elems, Rows.uptoBulk y.1 ≤ B := by
          simp only [Rows.uptoBulk] at hb
          have h1 := bulk_len (elems.map (·.1))
          simp at h1
          refine ⟨by omega, fun y hy => ?_⟩
          have := bulk_get (elems.map (·.1)) y.1 (List.mem_map.2 ⟨y, hy, rfl⟩)
          omega
        have each : ∀ i, i < len → ∃ (xs : List AV) (us : List Value), W.cells? 0 (a.add (i * P.cellsOf e)) (P.cellsOf e) = some us ∧ RepVs (c0 W) xs us ∧ Sh P B e xs ∧ ∀ u ∈ us, u.oneCell' = true := by
          intro i hi
          have hx := hge i hi
          have hlt' : i < elems.length := by omega
          rw [List.getElem?_eq_getElem hlt'] at hx
          simp only [Option.bind_eq_some_iff] at hx
          obtain ⟨us, hus, htr⟩ := hx
          obtain ⟨xs, h1, h2, h3⟩ := rep_of_trod K hB m n' e us _ hf.1 he htr (hbulk.2 _ (List.getElem_mem hlt'))
          exact ⟨xs, us, hus, h1, h2, h3⟩
        have build : ∀ j i, i + j = len → ∃ ys : List (List AV), ys.length = j ∧ (∀ y ∈ ys, Sh P B e y) ∧ RepEs (c0 W) (P.cellsOf e) ys a.block (a.off + i * P.cellsOf e) := by
          intro j
          induction j with
          | zero => intro i _; exact ⟨[], rfl, by simp, by simp [RepEs]⟩
          | succ j ih =>
            intro i hij
            obtain ⟨xs, us, hus, h1, h2, h3⟩ := each i (by omega)
            obtain ⟨hn, hsp, hr⟩ := cells_repCs hus h1 h3
            obtain ⟨ys, hy1, hy2, hy3⟩ := ih (i + 1) (by omega)
            refine ⟨xs :: ys, by simp [hy1], by intro y hy; cases List.mem_cons.1 hy with | inl e => subst e; exact h2 | inr e => exact hy2 y e, ?_⟩
            simp only [RepEs]
            refine ⟨⟨by rw [← h1.length]; exact hn, by rw [add_block, add_off] at hr; exact hr⟩, ?_⟩
            rwa [show a.off + i * P.cellsOf e + P.cellsOf e = a.off + (i + 1) * P.cellsOf e from by rw [Nat.succ_mul]; omega]
        obtain ⟨ys, hy1, hy2, hy3⟩ := build len 0 (by omega)
        refine ⟨[.sl (P.cellsOf e) none ys], ?_, .slice hu (by omega) hy2, by simp [Value.oneCell']⟩
        simp only [RepVs, Rep]
        refine ⟨_, _, rfl, ⟨some a, cap, by rw [hy1], by omega, by omega, hk, by simp, ?_, ?_, by simp⟩, rfl⟩
        · rintro a' ⟨⟩ hne
          have : 0 < len := by
            cases ys with
            | nil => exact absurd rfl hne
            | cons _ _ => simp at hy1; omega
          obtain ⟨xs, us, hus, h1, h2, h3⟩ := each 0 this
          have := (cells_repCs hus h1 h3).2.1 hk
          simpa [Addr.add] using this
        · rintro a' ⟨⟩
          simpa using hy3
    · rename_i fs hu
      obtain ⟨xs, n', rfl, rfl, hl, hlen, hg⟩ := DataW.trod_struct hu h
      have hbulk : ∀ y ∈ xs, Rows.uptoBulk y.1 ≤ B := by
        simp only [Rows.uptoBulk] at hb
        intro y hy
        have := bulk_get (xs.map (·.1)) y.1 (List.mem_map.2 ⟨y, hy, rfl⟩)
        omega
      obtain ⟨k1, k2, k3⟩ := K.struct hlt hu
      have each : ∀ (i : Nat) (f : Field), fs.toList[i]? = some f → ∃ p, RepVs (c0 W) p ((cs.drop f.offset).take (P.cellsOf f.type)) ∧ Sh P B f.type p ∧ ∀ u ∈ (cs.drop f.offset).take (P.cellsOf f.type), u.oneCell' = true := by
        intro i f hif
        have hlti : i < xs.length := by
          have := (List.getElem?_eq_some_iff.1 hif).1
          simp at this; omega
        have hx := hg i f (by simpa using hif)
        rw [List.getElem?_eq_getElem hlti] at hx
        exact rep_of_trod K hB m n' f.type _ _ (List.all_eq_true.1 hf f (List.mem_of_getElem? hif)) (k1 f (List.mem_of_getElem? hif)) hx (hbulk _ (List.getElem_mem hlti))
      have build : ∀ (l : List Field) , (∀ f ∈ l, ∃ p, RepVs (c0 W) p ((cs.drop f.offset).take (P.cellsOf f.type)) ∧ Sh P B f.type p ∧ ∀ u ∈ (cs.drop f.offset).take (P.cellsOf f.type), u.oneCell' = true) →
          ∃ parts : List (List AV), parts.length = l.length ∧ (∀ (i : Nat) f p, l[i]? = some f → parts[i]? = some p → Sh P B f.type p) ∧ RepVs (c0 W) parts.flatten (l.map fun f : Field => (cs.drop f.offset).take (P.cellsOf f.type)).flatten ∧
            ∀ u ∈ (l.map fun f : Field => (cs.drop f.offset).take (P.cellsOf f.type)).flatten, u.oneCell' = true := by
        intro l
        induction l with
        | nil => intro _; exact ⟨[], rfl, by simp, by simp [RepVs], by simp⟩
        | cons f l ih =>
          intro h
          obtain ⟨p, h1, h2, h3⟩ := h f (by simp)
          obtain ⟨parts, g1, g2, g3, g4⟩ := ih (fun f hf => h f (by simp [hf]))
          refine ⟨p :: parts, by simp [g1], ?_, ?_, ?_⟩
          · intro i f' p' hi hp
            cases i with
            | zero => cases hi; cases hp; exact h2
            | succ i => exact g2 i f' p' (by simpa using hi) (by simpa using hp)
          · simp only [List.map_cons, List.flatten_cons]
            exact RepVs.append h1 g3
          · intro u hu
            simp only [List.map_cons, List.flatten_cons, List.mem_append] at hu
            exact hu.elim (h3 u) (g4 u)
      obtain ⟨parts, g1, g2, g3, g4⟩ := build fs.toList (fun f hf => by
        obtain ⟨i, hi⟩ := List.mem_iff_getElem?.1 hf
        exact each i f hi)
      rw [cut_row K hlt hu hl] at g3 g4
      exact ⟨parts.flatten, g3, .struct hu g1 g2, g4⟩
    · cases hf
/-- an argument of plain data -/
def ArgSh (P : Program) (B : Nat) (t : TypeId) (x : AV) : Prop := ∃ xs, Sh P B t xs ∧ match P.underlying t with
  | some (.struct _) => x = .agg xs
  | _ => xs = [x]
def ArgShs (P : Program) (B : Nat) : List TypeId → List AV → Prop
  | [], [] => True
  | t :: ts, x :: xs => ArgSh P B t x ∧ ArgShs P B ts xs
  | _, _ => False
theorem rep_arg (K : Kids P (· < P.types.size)) {B : Nat} (hB : B ≤ LMAX) {m : Nat} {t : TypeId} {v : Value} {d : DataW H} {ps : List MemPlace} {base : Nat} (hf : flat P m t = true) (hlt : t < P.types.size)
    (hok : Value.okWide P W .any base t v) (h : DataW.Trod enc P W 0 (fun _ => true) true t v d ps) (hb : Rows.uptoBulk d ≤ B) : ∃ x, Rep (c0 W) x v ∧ ArgSh P B t x := by
  obtain ⟨n, h⟩ := h
  obtain ⟨xs, h1, h2, h3⟩ := rep_of_trod K hB m n t _ _ hf hlt h hb
  have one : ∀ x, xs = [x] → (∀ cs, v ≠ .agg cs) → (∀ fs, P.underlying t ≠ some (.struct fs)) → ∃ x, Rep (c0 W) x v ∧ ArgSh P B t x := by
    rintro x rfl hne hns
    have hv : v.cells.toList = [v] := by cases v <;> first | rfl | exact absurd rfl (hne _)
    rw [hv] at h1
    simp only [RepVs] at h1
    obtain ⟨u, r, hu, hx, rfl⟩ := h1
    cases hu
    refine ⟨x, hx, [x], h2, ?_⟩
    split
    · rename_i fs hfs; exact absurd hfs (hns fs)
    · rfl
  unfold Value.okWide at hok
  cases h2 with
  | bool hu =>
    rw [hu] at hok
    refine one _ rfl (fun cs hv => ?_) (by rw [hu]; simp)
    subst hv
    simp [Cell.okWide, hu, Cell.ok] at hok
  | int hu hw =>
    rw [hu] at hok
    refine one _ rfl (fun cs hv => ?_) (by rw [hu]; simp)
    subst hv
    simp [Cell.okWide, hu, Cell.ok] at hok
  | str hu hl =>
    rw [hu] at hok
    refine one _ rfl (fun cs hv => ?_) (by rw [hu]; simp)
    subst hv
    simp [Cell.okWide, hu, Cell.ok] at hok
  | slice hu hl hy =>
    rw [hu] at hok
    refine one _ rfl (fun cs hv => ?_) (by rw [hu]; simp)
    subst hv
    simp [Cell.okWide, hu, Cell.ok] at hok
  | @struct _ fs parts hu hl hp =>
    rw [hu] at hok
    obtain ⟨cs, rfl, hsz, _⟩ := hok
    refine ⟨.agg parts.flatten, ?_, parts.flatten, .struct hu hl hp, by rw [hu]⟩
    simp only [Rep]
    exact ⟨cs, rfl, fun u hu => h3 u (by simpa [Value.cells] using hu), h1⟩
theorem rep_args (K : Kids P (· < P.types.size)) {B : Nat} (hB : B ≤ LMAX) {m : Nat} {base : Nat} : ∀ {ts : List TypeId} {vs : List Value} {ds : List (DataW H)} {ps : List MemPlace}, (∀ t ∈ ts, flat P m t = true ∧ t < P.types.size) →
    (∀ (j : Nat) t v, ts[j]? = some t → vs[j]? = some v → Value.okWide P W .any base t v) → DataW.TrodAll enc P W 0 (fun _ => true) true ts vs ds ps → Rows.uptoBulkAll ds ≤ B →
    ∃ xs, RepVs (c0 W) xs vs ∧ ArgShs P B ts xs
  | [], vs, ds, ps, _, _, h, _ => by
    obtain ⟨rfl, rfl, rfl⟩ := trodAll_nil h
    exact ⟨[], by simp [RepVs], trivial⟩
  | t :: ts, vs, ds, ps, hf, hok, h, hb => by
    obtain ⟨v, vs1, d, ds1, a, b, rfl, rfl, rfl, h1, h2⟩ := trodAll_cons h
    simp only [Rows.uptoBulkAll] at hb
    obtain ⟨x, hx, hs⟩ := rep_arg K hB (hf t (by simp)).1 (hf t (by simp)).2 (hok 0 t v rfl rfl) h1 (by omega)
    obtain ⟨xs, hxs, hss⟩ := rep_args K hB (fun t ht => hf t (by simp [ht])) (fun j t v h1 h2 => hok (j + 1) t v (by simpa using h1) (by simpa using h2)) h2 (by omega)
    exact ⟨x :: xs, by simp only [RepVs]; exact ⟨v, vs1, rfl, hx, hxs⟩, hs, hss⟩
theorem stays_all {W' : World} {sp : Nat → Bool} (K : Kids P (· < P.types.size)) (hz : ∀ {t e : TypeId}, t < P.types.size → P.underlying t = some (.slice e) → 0 < P.cellsOf e) :
    ∀ {ts : List TypeId} {vs : List Value} {ds : List (DataW H)} {ps : List MemPlace}, (∀ t ∈ ts, t < P.types.size) → DataW.TrodAll enc P W 0 (fun _ => true) true ts vs ds ps → (∀ p ∈ ps, W.sameAt W' p) → (∀ p ∈ ps, sp p.block = true) →
      DataW.TrodAll enc P W' 0 sp true ts vs ds ps
  | [], vs, ds, ps, _, h, _, _ => by
    obtain ⟨rfl, rfl, rfl⟩ := trodAll_nil h
    exact trodAll_mk0
  | t :: ts, vs, ds, ps, hT, h, hs, hp => by
    obtain ⟨v, vs1, d, ds1, a, b, rfl, rfl, rfl, ⟨n, h1⟩, h2⟩ := trodAll_cons h
    exact ⟨a, b, ⟨n, DataW.trod_stays K hz (fun hh => by cases hh) (hT t (by simp)) h1 (fun p hp => hs p (by simp [hp])) (fun p hq => hp p (by simp [hq]))⟩,
      stays_all K hz (fun t ht => hT t (by simp [ht])) h2 (fun p hp => hs p (by simp [hp])) (fun p hq => hp p (by simp [hq])), rfl⟩
theorem trod_len : ∀ {ts : List TypeId} {vs : List Value} {ds : List (DataW H)} {ps : List MemPlace}, DataW.TrodAll enc P W 0 (fun _ => true) true ts vs ds ps → ds.length = ts.length
  | [], _, _, _, h => by
    obtain ⟨rfl, rfl, _⟩ := trodAll_nil h
    rfl
  | t :: ts, _, _, _, h => by
    obtain ⟨v, vs1, d, ds1, a, b, rfl, rfl, rfl, h1, h2⟩ := trodAll_cons h
    simp [trod_len h2]
theorem cw0 (W : World) : CW (fun _ => False) ⟨fun _ => none, fun _ => none⟩ [] W := by
  refine ⟨by simp, ⟨0, ?_⟩, by simp [keys], by simp [keys], by simp⟩
  rintro k (h | h | h | ⟨b, s, h⟩)
  · exact h.elim
  · simp [keys] at h
  · exact absurd rfl h
  · cases h
/-- the statement's post, of a call that answers true and leaves the old memory alone -/
theorem bridge {f : FuncId} {fn : Func} {s : ChangeSpec} {m : Nat} {tb : TypeId} (K : Kids P (· < P.types.size)) (hz : ∀ {t e : TypeId}, t < P.types.size → P.underlying t = some (.slice e) → 0 < P.cellsOf e)
    (hvars : s.vars = []) (hfn : ∀ ds : List (DataW H), ds.length = fn.params.toList.length → s.fn H ds = { results := [.lit (.bool true)], args := ds })
    (hres : fn.resultTypes = #[tb]) (hbool : P.underlying tb = some .bool) (hflat : ∀ t ∈ fn.params.toList, flat P m t = true ∧ t < P.types.size)
    (law : ∀ xs, ArgShs P 1048576 fn.params.toList xs → QCall P f xs [] (.bool true))
    {base : Nat} {args : Array Value} {ds gs : List (DataW H)} {before : List MemPlace}
    (hval : ∀ (j : Nat) t v, fn.params[j]? = some t → args[j]? = some v → Value.okWide P W .any base t v)
    (hW : DataW.Whole enc P fn.params.toList s.vars false W args.toList ds gs before) (hk : Rows.uptoSmall H (ds ++ gs) = true) :
    Calls P f args W fun e W' => ∃ v, e = .returned v ∧ s.post enc P fn false true false false W args v W' := by
  have hlt := hW.lt
  have hW' := hW
  rw [hvars] at hW
  obtain ⟨p, q, hA, hV, hpq, hfz, hnd⟩ := hW
  obtain ⟨rfl, rfl⟩ : gs = [] ∧ q = [] := by
    cases gs with
    | nil => simp only [DataW.TrodVars] at hV; exact ⟨rfl, hV⟩
    | cons _ _ => simp [DataW.TrodVars] at hV
  simp only [List.append_nil] at hpq hk
  subst hpq
  have hbulk : Rows.uptoBulkAll ds ≤ 1048576 := of_decide_eq_true hk
  obtain ⟨xs, hrep, hsh⟩ := rep_args K (B := 1048576) (by unfold LMAX; omega) hflat (fun j t v h1 h2 => hval j t v (by simpa using h1) (by simpa using h2)) hA hbulk
  have hlen : ds.length = fn.params.toList.length := (trod_len hA)
  refine ((law xs hsh).calls (fun _ => False) ⟨fun _ => none, fun _ => none⟩ W args (cw0 W) hrep).mono ?_
  rintro e W' ⟨v, u, g', h', rfl, ⟨rfl, rfl⟩, hc, hu, hst⟩
  simp only [Rep] at hu
  subst hu
  have hold : ∀ b, b < W.heap.size → W'.heap[b]? = W.heap[b]? := fun b hb => (hst.old b hb (fun k s h => by cases h)).1
  have hsame : ∀ p ∈ before, W.sameAt W' p := by
    intro p hp
    have := hlt p hp
    cases p with
    | cell b off => simp only [World.sameAt, World.cell?]; rw [hold b this]
    | map b => exact hold b this
  refine ⟨_, rfl, ds, [], before, [], before, [], hW', ?_, ?_, ?_, ?_, fun h => by cases h⟩
  · rw [List.append_nil, hfn ds hlen, hres]
    exact trodAll_mk1 (shut_bool hbool _)
  · rw [List.append_nil, hfn ds hlen]
    exact stays_all K hz (fun t ht => (hflat t ht).2) hA hsame (fun p hp => by simpa using hlt p hp)
  · rw [hvars, List.append_nil, hfn ds hlen]
    simp [DataW.TrodVars]
  · refine ⟨hst.os, hst.output, fun i hi => ?_⟩
    rw [hold i hi]
    cases hh : W.heap[i]? with
    | none => simp
    | some o => cases o <;> simp
end
end Go.Proofs.Ytbgnfchlelhbeaa.Br
set_option maxRecDepth 100000
set_option linter.unusedVariables false
namespace Go.Abs.Wall
open Go Go.Abs Go.Proofs
theorem mixed : Try.prog.follows .mixedOrders = true := by decide
theorem within (n low high : Int) : QCall Try.prog 49 [.int .i64 n, .int .i64 low, .int .i64 high] [] (.bool (decide (low ≤ n) && decide (n ≤ high))) := by
  refine acalls (fn := Try.f49) (code := (Try.f49.body.getD .skip)) (c := ⟨[0, 1, 2, 6], [], [], [], [], []⟩) rfl rfl rfl mixed (by simp [Try.f49]) fun X => ?_
  conv => whnf
  exact ⟨rfl, rfl⟩
def good (l : List Int) (n : Int) (i : Nat) : Bool :=
  match l[i]? with
  | none => false
  | some x => (decide (0 ≤ x) && decide (x ≤ n - 1)) && (match i with
    | 0 => true
    | j + 1 => match l[j]? with
      | none => false
      | some y => decide (y < x))
theorem good_bad {l : List Int} {n : Int} {i : Nat} (hlt : i < l.length) (hc : (!(decide (0 ≤ l[i]) && decide (l[i] ≤ n - 1)) || (decide ((0 : Int) < (i : Int)) && decide (l[i] ≤ l[i - 1]?.getD 0))) = true) :
    good l n i = false := by
  unfold good
  rw [List.getElem?_eq_getElem hlt]
  cases i with
  | zero => simp at hc ⊢; exact fun h => by omega
  | succ i =>
    rw [Nat.add_sub_cancel, List.getElem?_eq_getElem (show i < l.length by omega)] at hc
    simp only [List.getElem?_eq_getElem (show i < l.length by omega)]
    simp only [Option.getD_some] at hc
    simp only [Bool.or_eq_true, Bool.not_eq_true', Bool.and_eq_false_iff, Bool.and_eq_true, decide_eq_true_eq, decide_eq_false_iff_not] at hc ⊢
    omega
theorem good_good {l : List Int} {n : Int} {i : Nat} (hlt : i < l.length) (hc : (!(decide (0 ≤ l[i]) && decide (l[i] ≤ n - 1)) || (decide ((0 : Int) < (i : Int)) && decide (l[i] ≤ l[i - 1]?.getD 0))) = false) :
    good l n i = true := by
  unfold good
  rw [List.getElem?_eq_getElem hlt]
  cases i with
  | zero => simp at hc ⊢; omega
  | succ i =>
    rw [Nat.add_sub_cancel, List.getElem?_eq_getElem (show i < l.length by omega)] at hc
    simp only [List.getElem?_eq_getElem (show i < l.length by omega)]
    simp only [Option.getD_some] at hc
    simp only [Bool.or_eq_false_iff, Bool.not_eq_false', Bool.and_eq_false_iff, Bool.and_eq_true, decide_eq_true_eq, decide_eq_false_iff_not] at hc ⊢
    omega
def c106 : Cfg := ⟨[0, 1, 4, 5, 6, 7, 8, 9, 10, 31], [], [], [], [], []⟩
theorem rising (l : List Int) (n : Int) (hn : -9223372036854775808 < n ∧ n ≤ 9223372036854775807) (hl : l.length ≤ LMAX) :
    QCall Try.prog 106 [.sl 1 none (ints l), .int .i64 n] [] (.bool ((List.range l.length).all (good l n))) := by
  refine acalls (fn := Try.f106) (code := (Try.f106.body.getD .skip)) (c := c106) rfl rfl rfl mixed (by simp [Try.f106]) fun X => ?_
  conv => whnf
  refine loop_ok (c := c106) mixed [0, 1, 7, 8, 9] [] (fun m r h => ∃ i : Nat, r = [(0, [], .sl 1 none (ints l)), (1, [], .int .i64 n), (7, [], .sl 1 none (ints l)), (8, [], .int .i64 (ints l).length), (9, [], .int .i64 i)] ∧ h = [] ∧ m = l.length - i ∧ i ≤ l.length ∧ ∀ j, j < i → good l n j = true) ?_ ?_
  · conv => whnf
    exact ⟨_, 0, rfl, rfl, rfl, by omega, by intro j hj; omega⟩
  · rintro m r h ⟨i, rfl, rfl, rfl, hi, hg⟩
    conv => whnf
    refine ⟨fun hb => ?_, fun hb => ?_⟩
    · have hb : (i : Int) < ((ints l).length : Int) := of_decide_eq_true hb
      rw [ints_length] at hb
      have hlt : i < l.length := by omega
      have hx : l[i]? = some l[i] := List.getElem?_eq_getElem hlt
      unfold LMAX at hl
      conv => whnf
      refine ⟨i, [.int .i64 l[i]], ⟨rfl, ints_get hx⟩, ?_⟩
      conv => whnf
      refine ⟨⟨by omega, by omega⟩, ?_⟩
      conv => whnf
      refine QCall.k0 (within _ _ _) ?_
      conv => whnf
      refine ⟨fun h1 h2 => ⟨by omega, by omega⟩, ?_⟩
      conv => whnf
      refine ⟨i - 1, [.int .i64 (l[i - 1]?.getD 0)], fun h1 h2 => ?_, ?_⟩
      · have h2 : (0 : Int) < (i : Int) := of_decide_eq_true h2
        have hlt' : i - 1 < l.length := by omega
        exact ⟨by omega, by simp [ints, List.getElem?_eq_getElem hlt']⟩
      conv => whnf
      refine ⟨fun hc => ?_, fun hc => ?_⟩
      · conv => whnf
        have hc : (!(decide (0 ≤ l[i]) && decide (l[i] ≤ n - 1)) || (decide ((0 : Int) < (i : Int)) && decide (l[i] ≤ l[i - 1]?.getD 0))) = true := hc
        have hbad : good l n i = false := good_bad hlt hc
        refine ⟨congrArg AV.bool ?_, rfl⟩
        symm
        rw [List.all_eq_false]
        exact ⟨i, List.mem_range.2 hlt, by rw [hbad]; decide⟩
      · have hc : (!(decide (0 ≤ l[i]) && decide (l[i] ≤ n - 1)) || (decide ((0 : Int) < (i : Int)) && decide (l[i] ≤ l[i - 1]?.getD 0))) = false := hc
        have hgood : good l n i = true := good_good hlt hc
        conv => whnf
        refine ⟨⟨by omega, by omega⟩, ?_⟩
        conv => whnf
        exact ⟨l.length - (i + 1), by omega, i + 1, rfl, rfl, rfl, by omega, fun j hj => by
          rcases Nat.lt_succ_iff_lt_or_eq.1 hj with h | rfl
          · exact hg j h
          · exact hgood⟩
    · have hb : decide ((i : Int) < ((ints l).length : Int)) = false := hb
      rw [ints_length] at hb
      have hb := of_decide_eq_false hb
      conv => whnf
      refine ⟨congrArg AV.bool ?_, rfl⟩
      symm
      rw [List.all_eq_true]
      intro j hj
      exact hg j (by have := List.mem_range.1 hj; omega)
def c29 : Cfg := ⟨[0, 1, 4, 5, 10, 14, 25], [], [], [], [(6, [0, 1, 2, 3, 4, 5, 6, 7, 8], [])], []⟩
theorem sameInts (a b : List Int) (ha : a.length ≤ LMAX) (hb : b.length ≤ LMAX) : QCall Try.prog 29 [.sl 1 none (ints a), .sl 1 none (ints b)] [] (.bool (decide (a = b))) := by
  refine acalls (fn := Try.f29) (code := (Try.f29.body.getD .skip)) (c := c29) rfl rfl rfl mixed (by simp [Try.f29]) fun X => ?_
  unfold LMAX at ha hb
  conv => whnf
  refine ⟨fun hne => ?_, fun hne => ?_⟩
  · have hne : (!decide (((ints a).length : Int) = ((ints b).length : Int))) = true := hne
    simp at hne
    conv => whnf
    refine ⟨congrArg AV.bool ?_, rfl⟩
    symm
    exact decide_eq_false (fun e => hne (by rw [e]))
  · have hne : (!decide (((ints a).length : Int) = ((ints b).length : Int))) = false := hne
    simp at hne
    conv => whnf
    refine loop_ok (c := c29) mixed [0, 1, 5] [] (fun m r h => ∃ i : Nat, r = [(0, [], .sl 1 none (ints a)), (1, [], .sl 1 none (ints b)), (5, [], .int .i64 i)] ∧ h = [] ∧ m = a.length - i ∧ i ≤ a.length ∧ ∀ j, j < i → a[j]? = b[j]?) ?_ ?_
    · conv => whnf
      exact ⟨_, 0, rfl, rfl, rfl, by omega, by intro j hj; omega⟩
    · rintro m r h ⟨i, rfl, rfl, rfl, hi, hg⟩
      conv => whnf
      refine ⟨fun hb => ?_, fun hb => ?_⟩
      · have hb : (i : Int) < ((ints a).length : Int) := of_decide_eq_true hb
        rw [ints_length] at hb
        have h1 : i < a.length := by omega
        have h2 : i < b.length := by omega
        conv => whnf
        refine ⟨rfl, ?_⟩
        conv => whnf
        refine ⟨i, [.int .i64 a[i]], ⟨rfl, ints_get (List.getElem?_eq_getElem h1)⟩, ?_⟩
        conv => whnf
        refine ⟨i, [.int .i64 b[i]], ⟨rfl, ints_get (List.getElem?_eq_getElem h2)⟩, ?_⟩
        conv => whnf
        refine ⟨fun hc => ?_, fun hc => ?_⟩
        · have hc : (!decide (a[i] = b[i])) = true := hc
          conv => whnf
          refine ⟨congrArg AV.bool ?_, rfl⟩
          symm
          refine decide_eq_false (fun e => ?_)
          subst e
          simp at hc
        · have hc : (!decide (a[i] = b[i])) = false := hc
          simp at hc
          conv => whnf
          refine ⟨⟨by omega, by omega⟩, ?_⟩
          conv => whnf
          exact ⟨a.length - (i + 1), by omega, i + 1, rfl, rfl, rfl, by omega, fun j hj => by
            rcases Nat.lt_succ_iff_lt_or_eq.1 hj with h | rfl
            · exact hg j h
            · rw [List.getElem?_eq_getElem h1, List.getElem?_eq_getElem h2, hc]⟩
      · have hb : decide ((i : Int) < ((ints a).length : Int)) = false := hb
        rw [ints_length] at hb
        have hb := of_decide_eq_false hb
        conv => whnf
        refine ⟨congrArg AV.bool ?_, rfl⟩
        symm
        refine decide_eq_true (List.ext_getElem? fun j => ?_)
        by_cases hj : j < i
        · exact hg j hj
        · rw [List.getElem?_eq_none (by omega), List.getElem?_eq_none (by omega)]
end Go.Abs.Wall
set_option maxRecDepth 100000
set_option linter.unusedVariables false
namespace Go.Abs.Wall
open Go Go.Abs Go.Proofs
theorem map_get {α : Type} {enc : α → List AV} {l : List α} {i : Nat} (h : i < l.length) : (l.map enc)[i]? = some (enc l[i]) := by simp [List.getElem?_eq_getElem h]
def big (y : UInt8) : Bool := decide (65 ≤ y.toNat) && decide (y.toNat ≤ 90)
def small (y : UInt8) : Bool := decide (97 ≤ y.toNat) && decide (y.toNat ≤ 122)
def digit (y : UInt8) : Bool := decide (48 ≤ y.toNat) && decide (y.toNat ≤ 57)
def alnum (y : UInt8) : Bool := big y || small y || digit y
def codeOK (s : List UInt8) : Bool := decide (1 ≤ s.length) && decide (s.length ≤ 8) && big (s[0]?.getD 0) && s.all alnum
def c96 : Cfg := ⟨[0, 2, 3, 4, 22, 26, 54], [], [], [], [], []⟩
theorem le_cast (a : Nat) (y : UInt8) : decide ((a : Int) ≤ (y.toNat : Int)) = decide (a ≤ y.toNat) := by rw [decide_eq_decide]; omega
theorem le_cast' (a : Nat) (y : UInt8) : decide ((y.toNat : Int) ≤ (a : Int)) = decide (y.toNat ≤ a) := by rw [decide_eq_decide]; omega
theorem validCode (s : List UInt8) (hs : s.length ≤ LMAX) : QCall Try.prog 96 [.str s] [] (.bool (codeOK s)) := by
  refine acalls (fn := Try.f96) (code := (Try.f96.body.getD .skip)) (c := c96) rfl rfl rfl mixed (by simp [Try.f96]) fun X => ?_
  unfold LMAX at hs
  have h0 : ¬ (s.length : Int) < 1 → ((0 : Int) = ((0 : Nat) : Int) ∧ s[0]? = some (s[0]?.getD 0)) := by
    intro h
    refine ⟨rfl, ?_⟩
    rw [List.getElem?_eq_getElem (show 0 < s.length by omega)]; rfl
  conv => whnf
  refine ⟨0, s[0]?.getD 0, fun h1 => ?_, ?_⟩
  · have h1 : (decide ((s.length : Int) < 1) || decide (8 < (s.length : Int))) = false := h1
    simp only [Bool.or_eq_false_iff, decide_eq_false_iff_not] at h1
    exact h0 h1.1
  conv => whnf
  refine ⟨0, s[0]?.getD 0, fun h1 => ?_, ?_⟩
  · have h1 : (decide ((s.length : Int) < 1) || decide (8 < (s.length : Int)) || decide (((s[0]?.getD 0).toNat : Int) < 65)) = false := h1
    simp only [Bool.or_eq_false_iff, decide_eq_false_iff_not] at h1
    exact h0 h1.1.1
  conv => whnf
  refine ⟨fun hc => ?_, fun hc => ?_⟩
  · have hc : (decide ((s.length : Int) < 1) || decide (8 < (s.length : Int)) || decide (((s[0]?.getD 0).toNat : Int) < 65) || decide (90 < ((s[0]?.getD 0).toNat : Int))) = true := hc
    conv => whnf
    refine ⟨congrArg AV.bool ?_, rfl⟩
    symm
    simp only [Bool.or_eq_true, decide_eq_true_eq] at hc
    unfold codeOK big
    simp only [Bool.and_eq_false_iff, decide_eq_false_iff_not]
    omega
  · have hc : (decide ((s.length : Int) < 1) || decide (8 < (s.length : Int)) || decide (((s[0]?.getD 0).toNat : Int) < 65) || decide (90 < ((s[0]?.getD 0).toNat : Int))) = false := hc
    simp only [Bool.or_eq_false_iff, decide_eq_false_iff_not] at hc
    have hpre : (decide (1 ≤ s.length) && decide (s.length ≤ 8) && big (s[0]?.getD 0)) = true := by
      unfold big
      simp only [Bool.and_eq_true, decide_eq_true_eq]
      omega
    conv => whnf
    refine loop_ok (c := c96) mixed [0, 3] [] (fun m r h => ∃ i : Nat, r = [(0, [], .str s), (3, [], .int .i64 i)] ∧ h = [] ∧ m = s.length - i ∧ i ≤ s.length ∧ ∀ j y, j < i → s[j]? = some y → alnum y = true) ?_ ?_
    · conv => whnf
      exact ⟨_, 0, rfl, rfl, rfl, by omega, by intro j y hj; omega⟩
    · rintro m r h ⟨i, rfl, rfl, rfl, hi, hg⟩
      conv => whnf
      refine ⟨fun hb => ?_, fun hb => ?_⟩
      · have hb : (i : Int) < (s.length : Int) := of_decide_eq_true hb
        have hlt : i < s.length := by omega
        have hx := List.getElem?_eq_getElem hlt
        conv => whnf
        refine ⟨i, s[i], ⟨rfl, hx⟩, ?_⟩
        have e : ((decide ((65 : Int) ≤ (s[i].toNat : Int)) && decide ((s[i].toNat : Int) ≤ 90)) || (decide ((97 : Int) ≤ (s[i].toNat : Int)) && decide ((s[i].toNat : Int) ≤ 122)) ||
            (decide ((48 : Int) ≤ (s[i].toNat : Int)) && decide ((s[i].toNat : Int) ≤ 57))) = alnum s[i] := by
          unfold alnum big small digit
          rw [← le_cast, ← le_cast, ← le_cast, ← le_cast', ← le_cast', ← le_cast']
          rfl
        conv => whnf
        refine ⟨fun hc => ?_, fun hc => ?_⟩
        · have hc : (!((decide ((65 : Int) ≤ (s[i].toNat : Int)) && decide ((s[i].toNat : Int) ≤ 90)) || (decide ((97 : Int) ≤ (s[i].toNat : Int)) && decide ((s[i].toNat : Int) ≤ 122)) ||
            (decide ((48 : Int) ≤ (s[i].toNat : Int)) && decide ((s[i].toNat : Int) ≤ 57)))) = true := hc
          rw [e] at hc
          conv => whnf
          refine ⟨congrArg AV.bool ?_, rfl⟩
          symm
          unfold codeOK
          rw [Bool.and_eq_false_iff]
          right
          rw [List.all_eq_false]
          exact ⟨s[i], List.getElem_mem hlt, by simpa using hc⟩
        · have hc : (!((decide ((65 : Int) ≤ (s[i].toNat : Int)) && decide ((s[i].toNat : Int) ≤ 90)) || (decide ((97 : Int) ≤ (s[i].toNat : Int)) && decide ((s[i].toNat : Int) ≤ 122)) ||
            (decide ((48 : Int) ≤ (s[i].toNat : Int)) && decide ((s[i].toNat : Int) ≤ 57)))) = false := hc
          rw [e] at hc
          conv => whnf
          refine ⟨⟨by omega, by omega⟩, ?_⟩
          conv => whnf
          refine ⟨s.length - (i + 1), by omega, i + 1, rfl, rfl, rfl, by omega, fun j y hj hy => ?_⟩
          rcases Nat.lt_succ_iff_lt_or_eq.1 hj with h | rfl
          · exact hg j y h hy
          · rw [hx] at hy; cases hy; simpa using hc
      · have hb : ¬ (i : Int) < (s.length : Int) := of_decide_eq_false hb
        conv => whnf
        refine ⟨congrArg AV.bool ?_, rfl⟩
        symm
        unfold codeOK
        rw [hpre, Bool.true_and, List.all_eq_true]
        intro y hy
        obtain ⟨j, hj, rfl⟩ := List.getElem_of_mem hy
        exact hg j _ (by omega) (List.getElem?_eq_getElem hj)
end Go.Abs.Wall
set_option maxRecDepth 100000
set_option linter.unusedVariables false
namespace Go.Abs.Wall
open Go Go.Abs Go.Proofs
structure Val where
  kind : Int
  text : List UInt8
  fr : Int
  to : Int
def encVal (v : Val) : List AV := [.int .i64 v.kind, .str v.text, .int .i64 v.fr, .int .i64 v.to]
def c141 : Cfg := ⟨[0, 1, 2], [], [2], [], [], []⟩
theorem of (v : Val) : QCall Try.prog 141 [.agg (encVal v)] [] (.agg [.int .i64 v.kind, .str v.text]) := by
  refine acalls (fn := Try.f141) (code := (Try.f141.body.getD .skip)) (c := c141) rfl rfl rfl mixed (by simp [Try.f141]) fun X => ?_
  conv => whnf
  intro b
  conv => whnf
  refine ⟨_, _, Rem.here _, ⟨by simp, rfl⟩, ?_⟩
  conv => whnf
  exact ⟨rfl, rfl⟩
def meetB (a b : Val) : Bool := (decide (a.kind = b.kind) && (decide (a.text = b.text) && true)) && decide (a.fr ≤ b.to) && decide (b.fr ≤ a.to)
theorem plain198 : plainT Try.prog 198 = true := by decide +kernel
def c124 : Cfg := ⟨[0, 1, 2, 3, 4], [], [], [], [(1, [0, 1, 2, 3, 4, 5, 6, 7, 8, 9, 10, 11, 12, 13, 14, 15, 16, 17, 18, 19], [])], []⟩
theorem meet (a b : Val) : QCall Try.prog 124 [.agg (encVal a), .agg (encVal b)] [] (.bool (meetB a b)) := by
  refine acalls (fn := Try.f124) (code := (Try.f124.body.getD .skip)) (c := c124) rfl rfl rfl mixed (by simp [Try.f124]) fun X => ?_
  conv => whnf
  refine ⟨rfl, ?_⟩
  conv => whnf
  refine ⟨_, (of a).wide _, ?_⟩
  conv => whnf
  refine ⟨_, (of b).wide _, ?_⟩
  conv => whnf
  refine ⟨plain198, ?_⟩
  conv => whnf
  exact ⟨rfl, rfl⟩
def c123 : Cfg := ⟨[0, 1, 2, 3], [], [], [], [], []⟩
theorem meetF (v w : Val) : QCall Try.prog 123 [.agg (encVal w), .iptr (encVal v)] [] (.bool (meetB v w)) := by
  refine acalls (fn := Try.f123) (code := (Try.f123.body.getD .skip)) (c := c123) rfl rfl rfl mixed (by simp [Try.f123]) fun X => ?_
  conv => whnf
  refine QCall.k0 (meet v w) ?_
  conv => whnf
  exact ⟨rfl, rfl⟩
/-- the first place where p holds, or -1 -/
def firstI {α : Type} (p : α → Bool) (l : List α) : Int :=
  match l.findIdx? p with
  | some i => (i : Int)
  | none => -1
theorem firstI_some {α : Type} {p : α → Bool} {l : List α} {i : Nat} (h : i < l.length) (hp : p l[i] = true) (hb : ∀ j (hj : j < i), p (l[j]'(by omega)) = false) : firstI p l = (i : Int) := by
  unfold firstI
  have : l.findIdx? p = some i := by
    rw [List.findIdx?_eq_some_iff_getElem]
    exact ⟨h, hp, fun j hj => by simp [hb j hj]⟩
  rw [this]
theorem firstI_none {α : Type} {p : α → Bool} {l : List α} (hb : ∀ j (hj : j < l.length), p l[j] = false) : firstI p l = -1 := by
  unfold firstI
  have : l.findIdx? p = none := by
    rw [List.findIdx?_eq_none_iff]
    intro x hx
    obtain ⟨j, hj, rfl⟩ := List.getElem_of_mem hx
    exact hb j hj
  rw [this]
def c140 : Cfg := ⟨[0, 1, 4, 5, 7, 8, 9, 16], [], [], [], [], []⟩
theorem indexFuncV (l : List Val) (hl : l.length ≤ LMAX) (f : FuncId) (caps : List AV) (p : Val → Bool) (hp : ∀ w ∈ l, QCall Try.prog f (.agg (encVal w) :: caps) [] (.bool (p w))) :
    QCall Try.prog 140 [.sl 4 none (l.map encVal), .fn f caps] [] (.int .i64 (firstI p l)) := by
  refine acalls (fn := Try.f140) (code := (Try.f140.body.getD .skip)) (c := c140) rfl rfl rfl mixed (by simp [Try.f140]) fun X => ?_
  unfold LMAX at hl
  conv => whnf
  refine loop_ok (c := c140) mixed [0, 1, 7, 8] [] (fun m r h => ∃ i : Nat, r = [(0, [], .sl 4 none (l.map encVal)), (1, [], .fn f caps), (7, [], .int .i64 (l.map encVal).length), (8, [], .int .i64 i)] ∧ h = [] ∧ m = l.length - i ∧ i ≤ l.length ∧ ∀ j (hj : j < i) (hj' : j < l.length), p l[j] = false) ?_ ?_
  · conv => whnf
    exact ⟨_, 0, rfl, rfl, rfl, by omega, by intro j hj; omega⟩
  · rintro m r h ⟨i, rfl, rfl, rfl, hi, hg⟩
    conv => whnf
    refine ⟨fun hb => ?_, fun hb => ?_⟩
    · have hb : (i : Int) < ((l.map encVal).length : Int) := of_decide_eq_true hb
      rw [List.length_map] at hb
      have hlt : i < l.length := by omega
      conv => whnf
      refine ⟨i, encVal l[i], ⟨rfl, map_get hlt⟩, ?_⟩
      conv => whnf
      refine QCall.k0 (hp l[i] (List.getElem_mem hlt)) ?_
      conv => whnf
      refine ⟨fun hc => ?_, fun hc => ?_⟩
      · have hc : p l[i] = true := hc
        conv => whnf
        exact ⟨by rw [firstI_some hlt hc (fun j hj => hg j hj (by omega))], rfl⟩
      · have hc : p l[i] = false := hc
        conv => whnf
        refine ⟨⟨by omega, by omega⟩, ?_⟩
        conv => whnf
        refine ⟨l.length - (i + 1), by omega, i + 1, rfl, rfl, rfl, by omega, fun j hj hj' => ?_⟩
        rcases Nat.lt_succ_iff_lt_or_eq.1 hj with h | rfl
        · exact hg j h hj'
        · exact hc
    · have hb : ¬ (i : Int) < ((l.map encVal).length : Int) := of_decide_eq_false hb
      rw [List.length_map] at hb
      conv => whnf
      exact ⟨by rw [firstI_none (fun j hj => hg j (by omega) hj)], rfl⟩
theorem firstI_any {α : Type} (p : α → Bool) (l : List α) : decide (0 ≤ firstI p l) = l.any p := by
  unfold firstI
  cases h : l.findIdx? p with
  | none =>
    rw [List.findIdx?_eq_none_iff] at h
    have : l.any p = false := by rw [List.any_eq_false]; intro x hx; simp [h x hx]
    rw [this]; rfl
  | some i =>
    rw [List.findIdx?_eq_some_iff_getElem] at h
    obtain ⟨h1, h2, _⟩ := h
    have : l.any p = true := by rw [List.any_eq_true]; exact ⟨l[i], List.getElem_mem h1, h2⟩
    rw [this]
    exact decide_eq_true (by show (0 : Int) ≤ (i : Int); omega)
def c122 : Cfg := ⟨[0, 1, 4], [], [], [], [], []⟩
theorem containsFuncV (l : List Val) (hl : l.length ≤ LMAX) (f : FuncId) (caps : List AV) (p : Val → Bool) (hp : ∀ w ∈ l, QCall Try.prog f (.agg (encVal w) :: caps) [] (.bool (p w))) :
    QCall Try.prog 122 [.sl 4 none (l.map encVal), .fn f caps] [] (.bool (l.any p)) := by
  refine acalls (fn := Try.f122) (code := (Try.f122.body.getD .skip)) (c := c122) rfl rfl rfl mixed (by simp [Try.f122]) fun X => ?_
  conv => whnf
  refine QCall.k0 (indexFuncV l hl f caps p hp) ?_
  conv => whnf
  exact ⟨congrArg AV.bool (firstI_any p l), rfl⟩
def textCh (kind : Int) (y : UInt8) : Bool := small y || (!decide (kind = 3) && big y)
def textOK (kind : Int) (s : List UInt8) : Bool := decide (1 ≤ s.length) && decide (s.length ≤ 8) && s.all (textCh kind)
def c121 : Cfg := ⟨[0, 1, 4, 5, 6, 14, 18, 42], [], [], [], [], []⟩
theorem validText (kind : Int) (s : List UInt8) (hs : s.length ≤ LMAX) : QCall Try.prog 121 [.int .i64 kind, .str s] [] (.bool (textOK kind s)) := by
  refine acalls (fn := Try.f121) (code := (Try.f121.body.getD .skip)) (c := c121) rfl rfl rfl mixed (by simp [Try.f121]) fun X => ?_
  unfold LMAX at hs
  conv => whnf
  refine ⟨fun hc => ?_, fun hc => ?_⟩
  · have hc : (decide ((s.length : Int) < 1) || decide (8 < (s.length : Int))) = true := hc
    conv => whnf
    refine ⟨congrArg AV.bool ?_, rfl⟩
    symm
    simp only [Bool.or_eq_true, decide_eq_true_eq] at hc
    unfold textOK
    simp only [Bool.and_eq_false_iff, decide_eq_false_iff_not]
    omega
  · have hc : (decide ((s.length : Int) < 1) || decide (8 < (s.length : Int))) = false := hc
    simp only [Bool.or_eq_false_iff, decide_eq_false_iff_not] at hc
    have hpre : (decide (1 ≤ s.length) && decide (s.length ≤ 8)) = true := by
      simp only [Bool.and_eq_true, decide_eq_true_eq]
      omega
    conv => whnf
    refine loop_ok (c := c121) mixed [0, 1, 5] [] (fun m r h => ∃ i : Nat, r = [(0, [], .int .i64 kind), (1, [], .str s), (5, [], .int .i64 i)] ∧ h = [] ∧ m = s.length - i ∧ i ≤ s.length ∧ ∀ j y, j < i → s[j]? = some y → textCh kind y = true) ?_ ?_
    · conv => whnf
      exact ⟨_, 0, rfl, rfl, rfl, by omega, by intro j y hj; omega⟩
    · rintro m r h ⟨i, rfl, rfl, rfl, hi, hg⟩
      conv => whnf
      refine ⟨fun hb => ?_, fun hb => ?_⟩
      · have hb : (i : Int) < (s.length : Int) := of_decide_eq_true hb
        have hlt : i < s.length := by omega
        have hx := List.getElem?_eq_getElem hlt
        conv => whnf
        refine ⟨i, s[i], ⟨rfl, hx⟩, ?_⟩
        have e : ((decide ((97 : Int) ≤ (s[i].toNat : Int)) && decide ((s[i].toNat : Int) ≤ 122)) || ((!decide (kind = 3) && decide ((65 : Int) ≤ (s[i].toNat : Int))) && decide ((s[i].toNat : Int) ≤ 90))) = textCh kind s[i] := by
          unfold textCh big small
          rw [← le_cast, ← le_cast, ← le_cast', ← le_cast', Bool.and_assoc]
          rfl
        conv => whnf
        refine ⟨fun hc => ?_, fun hc => ?_⟩
        · have hc : (!((decide ((97 : Int) ≤ (s[i].toNat : Int)) && decide ((s[i].toNat : Int) ≤ 122)) || ((!decide (kind = 3) && decide ((65 : Int) ≤ (s[i].toNat : Int))) && decide ((s[i].toNat : Int) ≤ 90)))) = true := hc
          rw [e] at hc
          conv => whnf
          refine ⟨congrArg AV.bool ?_, rfl⟩
          symm
          unfold textOK
          rw [Bool.and_eq_false_iff]
          right
          rw [List.all_eq_false]
          exact ⟨s[i], List.getElem_mem hlt, by simpa using hc⟩
        · have hc : (!((decide ((97 : Int) ≤ (s[i].toNat : Int)) && decide ((s[i].toNat : Int) ≤ 122)) || ((!decide (kind = 3) && decide ((65 : Int) ≤ (s[i].toNat : Int))) && decide ((s[i].toNat : Int) ≤ 90)))) = false := hc
          rw [e] at hc
          conv => whnf
          refine ⟨⟨by omega, by omega⟩, ?_⟩
          conv => whnf
          refine ⟨s.length - (i + 1), by omega, i + 1, rfl, rfl, rfl, by omega, fun j y hj hy => ?_⟩
          rcases Nat.lt_succ_iff_lt_or_eq.1 hj with h | rfl
          · exact hg j y h hy
          · rw [hx] at hy; cases hy; simpa using hc
      · have hb : ¬ (i : Int) < (s.length : Int) := of_decide_eq_false hb
        conv => whnf
        refine ⟨congrArg AV.bool ?_, rfl⟩
        symm
        unfold textOK
        rw [hpre, Bool.true_and, List.all_eq_true]
        intro y hy
        obtain ⟨j, hj, rfl⟩ := List.getElem_of_mem hy
        exact hg j _ (by omega) (List.getElem?_eq_getElem hj)
structure Sgn where
  code : List UInt8
  wide : Int
  high : Int
  even : Bool
  values : List Val
structure Lst where
  periods : Int
  signs : List Sgn
def encSgn (s : Sgn) : List AV := [.str s.code, .int .i64 s.wide, .int .i64 s.high, .bool s.even, .sl 4 none (s.values.map encVal)]
def encLst (l : Lst) : List AV := [.int .i64 l.periods, .sl 5 none (l.signs.map encSgn)]
def valErr (l : Lst) (before : List Val) (v : Val) : Int :=
  if v.kind < 1 ∨ 3 < v.kind ∨ textOK v.kind v.text = false then 12
  else if v.fr < 1 ∨ v.to < v.fr ∨ l.periods < v.to then 13
  else if before.any (meetB v) = true then 12
  else 0
def c97 : Cfg := ⟨[0, 1, 2, 3, 5, 6, 7, 24, 42], [], [], [], [], []⟩
theorem checkValue (l : Lst) (before : List Val) (v : Val) (hb : before.length ≤ LMAX) (hv : v.text.length ≤ LMAX) :
    QCall Try.prog 97 [.agg (encLst l), .sl 4 none (before.map encVal), .agg (encVal v)] [] (.int .i64 (valErr l before v)) := by
  refine acalls (fn := Try.f97) (code := (Try.f97.body.getD .skip)) (c := c97) rfl rfl rfl mixed (by simp [Try.f97]) fun X => ?_
  conv => whnf
  refine ⟨_, fun h1 => validText v.kind v.text hv, ?_⟩
  conv => whnf
  refine ⟨fun hc => ?_, fun hc => ?_⟩
  · have hc : (decide (v.kind < 1) || decide (3 < v.kind) || !(textOK v.kind v.text)) = true := hc
    conv => whnf
    refine ⟨congrArg (AV.int .i64) ?_, rfl⟩
    unfold valErr
    rw [if_pos (by simpa [or_assoc] using hc)]
  · have hc : (decide (v.kind < 1) || decide (3 < v.kind) || !(textOK v.kind v.text)) = false := hc
    have hc' : ¬ (v.kind < 1 ∨ 3 < v.kind ∨ textOK v.kind v.text = false) := by
      intro hh
      have : (decide (v.kind < 1) || decide (3 < v.kind) || !(textOK v.kind v.text)) = true := by simpa [or_assoc] using hh
      rw [hc] at this; cases this
    conv => whnf
    refine ⟨fun hd => ?_, fun hd => ?_⟩
    · have hd : (decide (v.fr < 1) || decide (v.to < v.fr) || decide (l.periods < v.to)) = true := hd
      conv => whnf
      refine ⟨congrArg (AV.int .i64) ?_, rfl⟩
      unfold valErr
      rw [if_neg hc', if_pos (by simpa [or_assoc] using hd)]
    · have hd : (decide (v.fr < 1) || decide (v.to < v.fr) || decide (l.periods < v.to)) = false := hd
      have hd' : ¬ (v.fr < 1 ∨ v.to < v.fr ∨ l.periods < v.to) := by
        intro hh
        have : (decide (v.fr < 1) || decide (v.to < v.fr) || decide (l.periods < v.to)) = true := by simpa [or_assoc] using hh
        rw [hd] at this; cases this
      conv => whnf
      refine QCall.k0 (containsFuncV before hb 123 [.iptr (encVal v)] (meetB v) (fun w _ => meetF v w)) ?_
      conv => whnf
      refine ⟨fun he => ?_, fun he => ?_⟩
      · have he : before.any (meetB v) = true := he
        conv => whnf
        refine ⟨congrArg (AV.int .i64) ?_, rfl⟩
        unfold valErr
        rw [if_neg hc', if_neg hd', if_pos he]
      · have he : before.any (meetB v) = false := he
        conv => whnf
        refine ⟨congrArg (AV.int .i64) ?_, rfl⟩
        unfold valErr
        rw [if_neg hc', if_neg hd', if_neg (by rw [he]; decide)]
end Go.Abs.Wall
set_option maxRecDepth 100000
set_option linter.unusedVariables false
namespace Go.Abs.Wall
open Go Go.Abs Go.Proofs
structure Cel where
  mn : Int
  mx : Int
  signs : List Int
  deriving DecidableEq
def encCel (c : Cel) : List AV := [.int .i64 c.mn, .int .i64 c.mx, .sl 1 none (ints c.signs)]
def rises (l : List Int) (n : Int) : Bool := (List.range l.length).all (good l n)
def celBad (n : Int) (c : Cel) : Bool := decide (c.mn < 0) || decide (c.mx < c.mn) || decide (9 < c.mx) || !(rises c.signs n) || (decide (n = 0) && decide (0 < c.mx))
def rightGo (n : Int) (cells : List Cel) : List Cel → Int → Bool
  | [], s => decide (cells.length ≤ 40) && decide (s ≤ 60)
  | c :: t, s => if celBad n c then false else rightGo n cells t (s + c.mx)
def right (n : Int) (cells : List Cel) : Bool := rightGo n cells cells 0
def c69 : Cfg := ⟨[0, 1, 4, 5, 7, 8, 9, 10, 11, 44], [], [7], [], [], []⟩
theorem rightW (cells : List Cel) (n : Int) (hn : 0 ≤ n ∧ n ≤ 9223372036854775807) (hl : cells.length ≤ LMAX) (hs : ∀ c ∈ cells, c.signs.length ≤ LMAX) :
    QCall Try.prog 69 [.int .i64 n, .sl 3 none (cells.map encCel)] [] (.bool (right n cells)) := by
  refine fcalls (F := Try.f69) c69 rfl rfl rfl mixed rfl fun X => ?_
  conv => whnf
  unfold LMAX at hl
  refine sloop rfl mixed [0, 1, 5, 8, 9, 10] [] (fun m r h => ∃ (i : Nat) (s : Int), r = [(0, [], .int .i64 n), (1, [], .sl 3 none (cells.map encCel)), (5, [], .int .i64 s), (8, [], .sl 3 none (cells.map encCel)), (9, [], .int .i64 (cells.map encCel).length), (10, [], .int .i64 i)] ∧ h = [] ∧ m = cells.length - i ∧ i ≤ cells.length ∧ 0 ≤ s ∧ s ≤ 9 * i ∧ right n cells = rightGo n cells (cells.drop i) s) ?_ ?_
  · conv => whnf
    exact ⟨_, 0, 0, rfl, rfl, rfl, by omega, by omega, by omega, rfl⟩
  · rintro m r h ⟨i, s, rfl, rfl, rfl, hi, hs0, hs1, hr⟩
    conv => whnf
    refine ⟨fun hc => ?_, fun hc => ?_⟩ <;> simp at hc
    · obtain ⟨c, hx⟩ := get_lt hc
      have hcs := hs c (List.mem_of_getElem? hx)
      rw [drop_cons hx, rightGo] at hr
      conv => whnf
      repeat ((first | refine ix (by assumption) ?_ | (refine gcall (rising _ _ (by omega) hcs) ?_) | refine ⟨_, _, Rem.here _, ⟨Nat.le_of_ble_eq_true rfl, rfl⟩, ?_⟩ | intro (nb : Nat)); conv => whnf)
      refine ⟨fun hd => ?_, fun hd => ?_⟩
      · have hd : celBad n c = true := hd
        conv => whnf
        rw [hr, if_pos hd]
        exact ⟨rfl, rfl⟩
      · have hd : celBad n c = false := hd
        have hb : 0 ≤ c.mx ∧ c.mx ≤ 9 := by
          simp only [celBad, Bool.or_eq_false_iff, decide_eq_false_iff_not] at hd
          omega
        rw [if_neg (by simp [hd])] at hr
        conv => whnf
        repeat (refine ⟨gP_of ⟨by omega, by omega⟩, ?_⟩; conv => whnf)
        exact ⟨_, by omega, i + 1, s + c.mx, rfl, rfl, rfl, by omega, by omega, by omega, hr⟩
    · rw [drop_nil (by omega), rightGo] at hr
      conv => whnf
      rw [hr, List.length_map]
      exact ⟨by congr 3; simp; omega, rfl⟩
end Go.Abs.Wall
set_option maxRecDepth 100000
set_option linter.unusedVariables false
namespace Go.Abs.Wall
open Go Go.Abs Go.Proofs
/-! ### slices of ints: Index, Contains, IndexFunc, ContainsFunc -/
def Below {α : Type} (p : α → Bool) (l : List α) (i : Nat) : Prop := ∀ j y, j < i → l[j]? = some y → p y = false
theorem Below.zero {α : Type} {p : α → Bool} {l : List α} : Below p l 0 := fun j y h => by omega
theorem Below.succ {α : Type} {p : α → Bool} {l : List α} {i : Nat} {x : α} (h : Below p l i) (hx : l[i]? = some x) (hp : p x = false) : Below p l (i + 1) := by
  intro j y hj hy
  rcases Nat.lt_succ_iff_lt_or_eq.1 hj with h' | rfl
  · exact h j y h' hy
  · rw [hx] at hy; cases hy; exact hp
theorem Below.at {α : Type} {p : α → Bool} {l : List α} {i : Nat} {x : α} (hb : Below p l i) (hx : l[i]? = some x) (hp : p x = true) : firstI p l = (i : Int) := by
  obtain ⟨h1, h2⟩ := List.getElem?_eq_some_iff.1 hx
  exact firstI_some h1 (by rw [h2]; exact hp) (fun j hj => hb j _ hj (List.getElem?_eq_getElem (by omega)))
theorem Below.all {α : Type} {p : α → Bool} {l : List α} {i : Nat} (hb : Below p l i) (hi : l.length ≤ i) : ∀ y ∈ l, p y = false := by
  intro y hy
  obtain ⟨j, hj, rfl⟩ := List.getElem_of_mem hy
  exact hb j _ (by omega) (List.getElem?_eq_getElem hj)
theorem Below.end {α : Type} {p : α → Bool} {l : List α} {i : Nat} (hb : Below p l i) (hi : l.length ≤ i) : firstI p l = -1 :=
  firstI_none (fun j hj => hb.all hi _ (List.getElem_mem hj))
def c116 : Cfg := ⟨[0, 1, 4, 5, 7, 8, 9, 16], [], [], [], [], []⟩
def c88 : Cfg := ⟨[0, 1, 4], [], [], [], [], []⟩
def c110 : Cfg := ⟨[0, 1, 4, 5, 7, 8, 9, 16], [], [], [], [], []⟩
def c78 : Cfg := ⟨[0, 1, 4], [], [], [], [], []⟩
theorem indexI (l : List Int) (v : Int) (hl : l.length ≤ LMAX) : QCall Try.prog 116 [.sl 1 none (ints l), .int .i64 v] [] (.int .i64 (firstI (fun x => decide (v = x)) l)) := by
  refine fcalls (F := Try.f116) c116 rfl rfl rfl mixed rfl fun X => ?_
  conv => whnf
  unfold LMAX at hl
  refine sloop rfl mixed [0, 1, 7, 8] [] (fun m r h => ∃ (i : Nat), r = [(0, [], .sl 1 none (ints l)), (1, [], .int .i64 v), (7, [], .int .i64 (ints l).length), (8, [], .int .i64 i)] ∧ h = [] ∧ m = l.length - i ∧ i ≤ l.length ∧ Below (fun x => decide (v = x)) l i) ?_ ?_
  · conv => whnf
    exact ⟨_, 0, rfl, rfl, rfl, by omega, .zero⟩
  · rintro m r h ⟨i, rfl, rfl, rfl, hi, hg⟩
    conv => whnf
    refine ⟨fun hc => ?_, fun hc => ?_⟩ <;> simp at hc
    · obtain ⟨x, hx⟩ := get_lt hc
      conv => whnf
      repeat (refine ix (by assumption) ?_; conv => whnf)
      refine ⟨fun hd => ?_, fun hd => ?_⟩
      · conv => whnf
        exact ⟨by rw [hg.at hx hd], rfl⟩
      · conv => whnf
        repeat (refine ⟨gP_of ⟨by omega, by omega⟩, ?_⟩; conv => whnf)
        exact ⟨_, by omega, i + 1, rfl, rfl, rfl, by omega, hg.succ hx hd⟩
    · conv => whnf
      exact ⟨by rw [hg.end hc], rfl⟩
theorem containsI (l : List Int) (v : Int) (hl : l.length ≤ LMAX) : QCall Try.prog 88 [.sl 1 none (ints l), .int .i64 v] [] (.bool (l.contains v)) := by
  refine fcalls (F := Try.f88) c88 rfl rfl rfl mixed rfl fun X => ?_
  conv => whnf
  refine QCall.k0 (indexI l v hl) ?_
  conv => whnf
  refine ⟨congrArg AV.bool ?_, rfl⟩
  rw [firstI_any]
  induction l with
  | nil => rfl
  | cons a l ih => simp only [List.any_cons, List.contains_cons]; rw [ih (by simp at hl; omega)]; rfl
theorem indexFuncI (l : List Int) (hl : l.length ≤ LMAX) (f : FuncId) (caps : List AV) (p : Int → Bool) (hp : ∀ w ∈ l, QCall Try.prog f (.int .i64 w :: caps) [] (.bool (p w))) :
    QCall Try.prog 110 [.sl 1 none (ints l), .fn f caps] [] (.int .i64 (firstI p l)) := by
  refine fcalls (F := Try.f110) c110 rfl rfl rfl mixed rfl fun X => ?_
  conv => whnf
  unfold LMAX at hl
  refine sloop rfl mixed [0, 1, 7, 8] [] (fun m r h => ∃ (i : Nat), r = [(0, [], .sl 1 none (ints l)), (1, [], .fn f caps), (7, [], .int .i64 (ints l).length), (8, [], .int .i64 i)] ∧ h = [] ∧ m = l.length - i ∧ i ≤ l.length ∧ Below p l i) ?_ ?_
  · conv => whnf
    exact ⟨_, 0, rfl, rfl, rfl, by omega, .zero⟩
  · rintro m r h ⟨i, rfl, rfl, rfl, hi, hg⟩
    conv => whnf
    refine ⟨fun hc => ?_, fun hc => ?_⟩ <;> simp at hc
    · obtain ⟨x, hx⟩ := get_lt hc
      conv => whnf
      repeat ((first | refine ix (by assumption) ?_ | (refine QCall.k0 (hp x (List.mem_of_getElem? hx)) ?_)); conv => whnf)
      refine ⟨fun hd => ?_, fun hd => ?_⟩
      · conv => whnf
        exact ⟨by rw [hg.at hx hd], rfl⟩
      · conv => whnf
        repeat (refine ⟨gP_of ⟨by omega, by omega⟩, ?_⟩; conv => whnf)
        exact ⟨_, by omega, i + 1, rfl, rfl, rfl, by omega, hg.succ hx hd⟩
    · conv => whnf
      exact ⟨by rw [hg.end hc], rfl⟩
theorem containsFuncI (l : List Int) (hl : l.length ≤ LMAX) (f : FuncId) (caps : List AV) (p : Int → Bool) (hp : ∀ w ∈ l, QCall Try.prog f (.int .i64 w :: caps) [] (.bool (p w))) :
    QCall Try.prog 78 [.sl 1 none (ints l), .fn f caps] [] (.bool (l.any p)) := by
  refine fcalls (F := Try.f78) c78 rfl rfl rfl mixed rfl fun X => ?_
  conv => whnf
  refine QCall.k0 (indexFuncI l hl f caps p hp) ?_
  conv => whnf
  exact ⟨congrArg AV.bool (firstI_any p l), rfl⟩
/-! ### lines -/
def inR (n s : Int) : Bool := decide (0 ≤ s) && decide (s ≤ n - 1)
def lineErr (n : Int) (l : List Int) : Int := if 60 < l.length then 2 else if l.any (fun s => !inR n s) then 23 else 0
def linesErr (n : Int) : List (List Int) → Int
  | [] => 0
  | l :: t => if 60 < l.length then 2 else if l.any (fun s => !inR n s) then 23 else linesErr n t
def encL (l : List Int) : List AV := [.sl 1 none (ints l)]
def c98 : Cfg := ⟨[0, 1, 3], [], [], [], [], []⟩
def c63 : Cfg := ⟨[0, 1, 2, 4, 6, 7, 8, 9, 10, 15, 18], [], [], [], [], []⟩
theorem lines1 (n s : Int) (hn : -9223372036854775808 < n ∧ n ≤ 9223372036854775807) : QCall Try.prog 98 [.int .i64 s, .iptr [.int .i64 n]] [] (.bool (!inR n s)) := by
  refine fcalls (F := Try.f98) c98 rfl rfl rfl mixed rfl fun X => ?_
  conv => whnf
  repeat ((first | refine ⟨gP_of ⟨by omega, by omega⟩, ?_⟩ | (refine QCall.k0 (within _ _ _) ?_)); conv => whnf)
  exact ⟨rfl, rfl⟩
theorem checkLines (n : Int) (ls : List (List Int)) (hn : -9223372036854775808 < n ∧ n ≤ 9223372036854775807) (hl : ls.length ≤ LMAX) (hs : ∀ l ∈ ls, l.length ≤ LMAX) :
    QCall Try.prog 63 [.int .i64 n, .sl 1 none (ls.map encL)] [] (.int .i64 (linesErr n ls)) := by
  refine fcalls (F := Try.f63) c63 rfl rfl rfl mixed rfl fun X => ?_
  conv => whnf
  unfold LMAX at hl
  refine sloop rfl mixed [2, 7, 8, 9] [] (fun m r h => ∃ (i : Nat), r = [(2, [], .iptr [.int .i64 n]), (7, [], .sl 1 none (ls.map encL)), (8, [], .int .i64 (ls.map encL).length), (9, [], .int .i64 i)] ∧ h = [] ∧ m = ls.length - i ∧ i ≤ ls.length ∧ linesErr n ls = linesErr n (ls.drop i)) ?_ ?_
  · conv => whnf
    exact ⟨_, 0, rfl, rfl, rfl, by omega, rfl⟩
  · rintro m r h ⟨i, rfl, rfl, rfl, hi, hr⟩
    conv => whnf
    refine ⟨fun hc => ?_, fun hc => ?_⟩ <;> simp at hc
    · obtain ⟨x, hx⟩ := get_lt hc
      rw [drop_cons hx, linesErr] at hr
      have hxl := hs x (List.mem_of_getElem? hx)
      conv => whnf
      repeat (refine ix (by assumption) ?_; conv => whnf)
      refine ⟨fun hd => ?_, fun hd => ?_⟩ <;> simp at hd
      · conv => whnf
        exact ⟨by rw [hr, if_pos (by omega)], rfl⟩
      · rw [if_neg (by omega)] at hr
        conv => whnf
        repeat ((refine QCall.k0 (containsFuncI x hxl 98 _ (fun s => !inR n s) fun w _ => lines1 n w hn) ?_); conv => whnf)
        refine ⟨fun he => ?_, fun he => ?_⟩
        · conv => whnf
          exact ⟨by rw [hr, if_pos he], rfl⟩
        · rw [if_neg (by rw [he]; decide)] at hr
          conv => whnf
          repeat (refine ⟨gP_of ⟨by omega, by omega⟩, ?_⟩; conv => whnf)
          exact ⟨_, by omega, i + 1, rfl, rfl, rfl, by omega, hr⟩
    · rw [drop_nil hc] at hr
      conv => whnf
      exact ⟨by rw [hr]; rfl, rfl⟩
end Go.Abs.Wall
set_option maxRecDepth 100000
set_option linter.unusedVariables false
namespace Go.Abs.Wall
open Go Go.Abs Go.Proofs
/-! ### the sign list's check -/
def valsErr (l : Lst) (vs : List Val) : List Val → Nat → Int
  | [], _ => 0
  | v :: t, i => if valErr l (vs.take i) v ≠ 0 then valErr l (vs.take i) v else valsErr l vs t (i + 1)
def sgnErr (l : Lst) (s : Sgn) : Int :=
  if s.wide < 1 ∨ 12 < s.wide ∨ s.high < 1 ∨ 12 < s.high then 11
  else if 12 < s.values.length then 2
  else valsErr l s.values s.values 0
def lstGo (l : Lst) : List Sgn → List (List UInt8) → Int
  | [], _ => 0
  | s :: t, seen => if codeOK s.code = false ∨ s.code ∈ seen then 10 else if sgnErr l s ≠ 0 then sgnErr l s else lstGo l t (seen ++ [s.code])
def lstErr (l : Lst) : Int :=
  if 200 < l.signs.length then 2
  else if l.periods < 1 ∨ 9 < l.periods then 13
  else lstGo l l.signs []
structure SgnFit (s : Sgn) : Prop where
  code : s.code.length ≤ LMAX
  values : s.values.length ≤ LMAX
  texts : ∀ v ∈ s.values, v.text.length ≤ LMAX
structure LstFit (l : Lst) : Prop where
  signs : l.signs.length ≤ LMAX
  each : ∀ s ∈ l.signs, SgnFit s
theorem eqStr (a b : List UInt8) : eqV Try.prog 9 (.str a) (.str b) = some (decide (a = b)) := rfl
theorem plainStr : plainT Try.prog 9 = true := by decide +kernel
def ones (seen : List (List UInt8)) : List (List UInt8 × Int) := seen.map fun c => (c, 1)
theorem ones_look (c : List UInt8) (seen : List (List UInt8)) : (lookA c (ones seen)).getD 0 = if c ∈ seen then 1 else 0 := by
  induction seen with
  | nil => rfl
  | cons a t ih =>
    unfold ones at ih ⊢
    simp only [List.map_cons, lookA, List.mem_cons]
    by_cases h : c = a
    · simp [h]
    · simp [h, ih]
theorem ones_set (c : List UInt8) (seen : List (List UInt8)) (h : c ∉ seen) : setA c 1 (ones seen) = ones (seen ++ [c]) := by
  induction seen with
  | nil => rfl
  | cons a t ih =>
    simp only [List.mem_cons, not_or] at h
    unfold ones at ih ⊢
    simp only [List.map_cons, setA, List.cons_append]
    rw [if_neg h.1, ih h.2]
def c62 : Cfg := ⟨[0, 1, 2, 3, 5, 6, 7, 8, 12, 20, 23, 24, 25, 26, 39, 62, 66, 68, 69, 70, 71, 83], [], [5, 7], [], [(19, [0, 1, 2, 3, 4, 5, 6, 7], [])], []⟩
set_option maxHeartbeats 1000000 in
theorem signsCheck (l : Lst) (hl : LstFit l) : QCall Try.prog 62 [.agg (encLst l)] [] (.int .i64 (lstErr l)) := by
  have hl1 := hl.signs
  unfold LMAX at hl1
  refine QCall.of' (fcalls (F := Try.f62) c62 rfl rfl rfl mixed rfl fun X => ?_)
  conv => whnf
  refine ⟨fun hc => ?_, fun hc => ?_⟩ <;> simp at hc
  · conv => whnf
    rw [lstErr, if_pos (by omega)]
  conv => whnf
  refine ⟨fun hd => ?_, fun hd => ?_⟩ <;> simp at hd
  · conv => whnf
    rw [lstErr, if_neg (by omega), if_pos (by omega)]
  have hgo : lstErr l = lstGo l l.signs [] := by rw [lstErr, if_neg (by omega), if_neg (by omega)]
  conv => whnf
  intro bm
  conv => whnf
  refine sloop rfl mixed [1, 3, 23, 24, 25] [] (fun m r h => ∃ (i : Nat) (seen : List (List UInt8)), r = [(1, [], .iptr (encLst l)), (3, [], .omap bm), (23, [], .sl 5 none (l.signs.map encSgn)), (24, [], .int .i64 (l.signs.map encSgn).length), (25, [], .int .i64 i)] ∧ h = [(bm, .map (encA AV.str (AV.int .i64) (ones seen)))] ∧ m = l.signs.length - i ∧ i ≤ l.signs.length ∧ lstErr l = lstGo l (l.signs.drop i) seen) ?_ ?_
  · conv => whnf
    exact ⟨_, 0, [], rfl, rfl, rfl, by omega, hgo⟩
  · rintro m r h ⟨i, seen, rfl, rfl, rfl, hi, hr⟩
    conv => whnf
    refine ⟨fun he => ?_, fun he => ?_⟩ <;> simp at he
    · obtain ⟨s, hx⟩ := get_lt he
      have hf := hl.each s (List.mem_of_getElem? hx)
      rw [drop_cons hx, lstGo] at hr
      conv => whnf
      repeat ((first | refine ix (by assumption) ?_ | refine ⟨_, _, Rem.here _, ⟨Nat.le_of_ble_eq_true rfl, rfl⟩, ?_⟩ | intro (nb : Nat)); conv => whnf)
      refine QCall.k0 (validCode s.code hf.code) ?_
      conv => whnf
      refine lkI (List.mem_singleton.2 rfl) eqStr plainStr ?_
      conv => whnf
      rw [ones_look]
      refine ⟨fun hcc => ?_, fun hcc => ?_⟩
      · have hcc : codeOK s.code = false ∨ s.code ∈ seen := by
          by_cases hm : s.code ∈ seen
          · exact .inr hm
          · simp [hm] at hcc; exact .inl hcc
        conv => whnf
        rw [hr, if_pos hcc]
      have hcc : ¬ (codeOK s.code = false ∨ s.code ∈ seen) := by
        by_cases hm : s.code ∈ seen
        · simp [hm] at hcc
        · simp [hm] at hcc; simp [hm, hcc]
      rw [if_neg hcc] at hr
      conv => whnf
      refine lkI (List.mem_singleton.2 rfl) eqStr plainStr ?_
      rw [ones_look]
      have hns : s.code ∉ seen := fun h => hcc (.inr h)
      rw [if_neg hns]
      conv => whnf
      repeat (refine ⟨gP_of ⟨by omega, by omega⟩, ?_⟩; conv => whnf)
      refine upA eqStr plainStr (Upd.here _) ?_
      rw [show (0 : Int) + 1 = 1 from rfl, ones_set _ _ hns]
      conv => whnf
      refine ⟨fun hz => ?_, fun hz => ?_⟩ <;> simp at hz
      · have hse : sgnErr l s = 11 := by rw [sgnErr, if_pos (by omega)]
        rw [hse, if_pos (by decide)] at hr
        conv => whnf
        rw [hr]
      conv => whnf
      refine ⟨fun hy => ?_, fun hy => ?_⟩ <;> simp at hy
      · have hse : sgnErr l s = 2 := by rw [sgnErr, if_neg (by omega), if_pos (by omega)]
        rw [hse, if_pos (by decide)] at hr
        conv => whnf
        rw [hr]
      have hse : sgnErr l s = valsErr l s.values s.values 0 := by rw [sgnErr, if_neg (by omega), if_neg (by omega)]
      have hfv := hf.values
      unfold LMAX at hfv
      conv => whnf
      refine sloop rfl mixed [1, 3, 5, 23, 24, 25, 68, 69, 70] [] (fun m r h => ∃ (j : Nat), r = [(1, [], .iptr (encLst l)), (3, [], .omap bm), (5, [], .iptr (encSgn s)), (23, [], .sl 5 none (l.signs.map encSgn)), (24, [], .int .i64 (l.signs.map encSgn).length), (25, [], .int .i64 i), (68, [], .sl 4 none (s.values.map encVal)), (69, [], .int .i64 (s.values.map encVal).length), (70, [], .int .i64 j)] ∧ h = [(bm, .map (encA AV.str (AV.int .i64) (ones (seen ++ [s.code]))))] ∧ m = s.values.length - j ∧ j ≤ s.values.length ∧ sgnErr l s = valsErr l s.values (s.values.drop j) j) ?_ ?_
      · conv => whnf
        exact ⟨_, 0, rfl, rfl, rfl, by omega, hse⟩
      · rintro m r h ⟨j, rfl, rfl, rfl, hj, hv⟩
        conv => whnf
        refine ⟨fun ha => ?_, fun ha => ?_⟩ <;> simp at ha
        · obtain ⟨v, hxv⟩ := get_lt ha
          have hvt := hf.texts v (List.mem_of_getElem? hxv)
          rw [drop_cons hxv, valsErr] at hv
          conv => whnf
          repeat ((first | refine ix (by assumption) ?_ | refine ⟨_, _, Rem.here _, ⟨Nat.le_of_ble_eq_true rfl, rfl⟩, ?_⟩ | refine And.intro (by show drawOK (opsAt Try.f62 _) _ = true; decide +kernel) ?_
                         | intro (nb : Nat)); conv => whnf)
          refine ⟨⟨by omega, by omega, by simp; omega⟩, ?_⟩
          have hq := checkValue l (s.values.take j) v (by simp [LMAX]; omega) hvt
          rw [List.map_take] at hq
          conv => whnf
          refine gcall hq ?_
          conv => whnf
          refine ⟨fun hu => ?_, fun hu => ?_⟩ <;> simp at hu
          · rw [if_pos hu] at hv
            rw [hv, if_pos hu] at hr
            conv => whnf
            rw [hr]
          · rw [if_neg (by simpa using hu)] at hv
            conv => whnf
            repeat (refine ⟨gP_of ⟨by omega, by omega⟩, ?_⟩; conv => whnf)
            exact ⟨_, by omega, j + 1, rfl, rfl, rfl, by omega, hv⟩
        · rw [drop_nil ha, valsErr] at hv
          rw [hv, if_neg (by decide)] at hr
          conv => whnf
          repeat (refine ⟨gP_of ⟨by omega, by omega⟩, ?_⟩; conv => whnf)
          exact ⟨_, by omega, i + 1, _, rfl, rfl, rfl, by omega, hr⟩
    · rw [drop_nil he] at hr
      conv => whnf
      rw [hr]; rfl
end Go.Abs.Wall
set_option maxRecDepth 100000
set_option linter.unusedVariables false
namespace Go.Abs.Wall
open Go Go.Abs Go.Proofs
/-! ### the specification's check of sign lists -/
def c125 : Cfg := ⟨[0, 1, 2, 6], [], [], [], [], []⟩
def c100 : Cfg := ⟨[0, 2, 3, 17, 21, 42], [], [], [], [], []⟩
def c142 : Cfg := ⟨[0, 2, 3, 7, 14], [], [], [], [], []⟩
def c143 : Cfg := ⟨[0, 2, 3, 7, 21], [], [], [], [], []⟩
def c126 : Cfg := ⟨[0, 1, 4, 12, 14], [], [], [], [], []⟩
theorem between (c lo hi : Int) : QCall Try.prog 125 [.int .u8 c, .int .u8 lo, .int .u8 hi] [] (.bool (decide (lo ≤ c) && decide (c ≤ hi))) := by
  refine fcalls (F := Try.f125) c125 rfl rfl rfl mixed rfl fun X => ?_
  conv => whnf
  exact ⟨rfl, rfl⟩
theorem btw (y : UInt8) (a b : Nat) : (decide ((a : Int) ≤ (y.toNat : Int)) && decide ((y.toNat : Int) ≤ (b : Int))) = (decide (a ≤ y.toNat) && decide (y.toNat ≤ b)) := by
  rw [le_cast, le_cast']
theorem b97 (y : UInt8) : (decide ((97 : Int) ≤ (y.toNat : Int)) && decide ((y.toNat : Int) ≤ 122)) = small y := btw y 97 122
theorem b65 (y : UInt8) : (decide ((65 : Int) ≤ (y.toNat : Int)) && decide ((y.toNat : Int) ≤ 90)) = big y := btw y 65 90
theorem b48 (y : UInt8) : (decide ((48 : Int) ≤ (y.toNat : Int)) && decide ((y.toNat : Int) ≤ 57)) = digit y := btw y 48 57
theorem refSmall (s : List UInt8) (hs : s.length ≤ LMAX) : QCall Try.prog 142 [.str s] [] (.bool (s.all small)) := by
  refine fcalls (F := Try.f142) c142 rfl rfl rfl mixed rfl fun X => ?_
  conv => whnf
  unfold LMAX at hs
  refine sloop rfl mixed [0, 3] [] (fun m r h => ∃ (i : Nat), r = [(0, [], .str s), (3, [], .int .i64 i)] ∧ h = [] ∧ m = s.length - i ∧ i ≤ s.length ∧ s.all small = (s.drop i).all small) ?_ ?_
  · conv => whnf
    exact ⟨_, 0, rfl, rfl, rfl, by omega, rfl⟩
  · rintro m r h ⟨i, rfl, rfl, rfl, hi, hr⟩
    conv => whnf
    refine ⟨fun hc => ?_, fun hc => ?_⟩ <;> simp at hc
    · obtain ⟨y, hx⟩ := get_lt hc
      rw [drop_cons hx, List.all_cons] at hr
      conv => whnf
      repeat ((first | refine sx (by assumption) ?_ | refine QCall.k0 (between _ _ _) ?_); conv => whnf)
      rw [b97]
      refine ⟨fun hd => ?_, fun hd => ?_⟩ <;> simp at hd
      · conv => whnf
        exact ⟨by rw [hr, hd]; rfl, rfl⟩
      · rw [hd, Bool.true_and] at hr
        conv => whnf
        repeat (refine ⟨gP_of ⟨by omega, by omega⟩, ?_⟩; conv => whnf)
        exact ⟨_, by omega, i + 1, rfl, rfl, rfl, by omega, hr⟩
    · rw [drop_nil hc] at hr
      conv => whnf
      exact ⟨by rw [hr]; rfl, rfl⟩
theorem refSounds (s : List UInt8) (hs : s.length ≤ LMAX) : QCall Try.prog 143 [.str s] [] (.bool (s.all fun y => small y || big y)) := by
  refine fcalls (F := Try.f143) c143 rfl rfl rfl mixed rfl fun X => ?_
  conv => whnf
  unfold LMAX at hs
  refine sloop rfl mixed [0, 3] [] (fun m r h => ∃ (i : Nat), r = [(0, [], .str s), (3, [], .int .i64 i)] ∧ h = [] ∧ m = s.length - i ∧ i ≤ s.length ∧ (s.all fun y => small y || big y) = (s.drop i).all fun y => small y || big y) ?_ ?_
  · conv => whnf
    exact ⟨_, 0, rfl, rfl, rfl, by omega, rfl⟩
  · rintro m r h ⟨i, rfl, rfl, rfl, hi, hr⟩
    conv => whnf
    refine ⟨fun hc => ?_, fun hc => ?_⟩ <;> simp at hc
    · obtain ⟨y, hx⟩ := get_lt hc
      rw [drop_cons hx, List.all_cons] at hr
      conv => whnf
      repeat ((first | refine sx (by assumption) ?_ | refine QCall.k0 (between _ _ _) ?_ | refine gcall (between _ _ _) ?_); conv => whnf)
      rw [b97, b65]
      refine ⟨fun hd => ?_, fun hd => ?_⟩
      · conv => whnf
        exact ⟨by rw [hr]; simp at hd; simp [hd], rfl⟩
      · rw [show (small y || big y) = true by simp at hd; cases h : small y <;> simp [h] at hd ⊢; exact hd, Bool.true_and] at hr
        conv => whnf
        repeat (refine ⟨gP_of ⟨by omega, by omega⟩, ?_⟩; conv => whnf)
        exact ⟨_, by omega, i + 1, rfl, rfl, rfl, by omega, hr⟩
    · rw [drop_nil hc] at hr
      conv => whnf
      exact ⟨by rw [hr]; rfl, rfl⟩
theorem refCode (s : List UInt8) (hs : s.length ≤ LMAX) : QCall Try.prog 100 [.str s] [] (.bool (codeOK s)) := by
  refine fcalls (F := Try.f100) c100 rfl rfl rfl mixed rfl fun X => ?_
  conv => whnf
  unfold LMAX at hs
  repeat ((first | (refine sxg ?_ ?_; (conv => whnf); (intro h; simp at h; show 0 ≤ 0 ∧ 0 < _; omega)) | refine gcall (between _ _ _) ?_); conv => whnf)
  rw [b65]
  refine ⟨fun hc => ?_, fun hc => ?_⟩
  · conv => whnf
    refine ⟨congrArg AV.bool ?_, rfl⟩
    symm
    simp only [Bool.or_eq_true, decide_eq_true_eq, Bool.not_eq_true'] at hc
    unfold codeOK
    simp only [Bool.and_eq_false_iff, decide_eq_false_iff_not]
    rcases hc with (hc | hc) | hc
    · exact .inl (.inl (.inl (by omega)))
    · exact .inl (.inl (.inr (by omega)))
    · exact .inl (.inr hc)
  have hpre : (decide (1 ≤ s.length) && decide (s.length ≤ 8) && big (s[0]?.getD 0)) = true := by
    simp only [Bool.or_eq_false_iff, decide_eq_false_iff_not, Bool.not_eq_false'] at hc
    simp only [Bool.and_eq_true, decide_eq_true_eq]
    exact ⟨by omega, hc.2⟩
  have hco : codeOK s = s.all alnum := by unfold codeOK; rw [hpre]; rfl
  conv => whnf
  refine sloop rfl mixed [0, 3] [] (fun m r h => ∃ (i : Nat), r = [(0, [], .str s), (3, [], .int .i64 i)] ∧ h = [] ∧ m = s.length - i ∧ i ≤ s.length ∧ codeOK s = (s.drop i).all alnum) ?_ ?_
  · conv => whnf
    exact ⟨_, 0, rfl, rfl, rfl, by omega, hco⟩
  · rintro m r h ⟨i, rfl, rfl, rfl, hi, hr⟩
    conv => whnf
    refine ⟨fun hc => ?_, fun hc => ?_⟩ <;> simp at hc
    · obtain ⟨y, hx⟩ := get_lt hc
      rw [drop_cons hx, List.all_cons] at hr
      conv => whnf
      repeat ((first | refine sx (by assumption) ?_ | refine QCall.k0 (between _ _ _) ?_ | refine gcall (between _ _ _) ?_); conv => whnf)
      rw [b97, b65, b48]
      refine ⟨fun hd => ?_, fun hd => ?_⟩
      · conv => whnf
        refine ⟨congrArg AV.bool ?_, rfl⟩
        rw [hr, show alnum y = false by unfold alnum; revert hd; cases small y <;> cases big y <;> cases digit y <;> decide]; rfl
      · rw [show alnum y = true by unfold alnum; revert hd; cases small y <;> cases big y <;> cases digit y <;> decide, Bool.true_and] at hr
        conv => whnf
        repeat (refine ⟨gP_of ⟨by omega, by omega⟩, ?_⟩; conv => whnf)
        exact ⟨_, by omega, i + 1, rfl, rfl, rfl, by omega, hr⟩
    · rw [drop_nil hc] at hr
      conv => whnf
      exact ⟨by rw [hr]; rfl, rfl⟩
theorem refRight (kind : Int) (s : List UInt8) (hs : s.length ≤ LMAX) : QCall Try.prog 126 [.int .i64 kind, .str s] [] (.bool (textOK kind s)) := by
  refine fcalls (F := Try.f126) c126 rfl rfl rfl mixed rfl fun X => ?_
  conv => whnf
  refine ⟨fun hc => ?_, fun hc => ?_⟩ <;> simp at hc
  · conv => whnf
    refine ⟨congrArg AV.bool ?_, rfl⟩
    unfold textOK
    symm
    simp only [Bool.and_eq_false_iff, decide_eq_false_iff_not]
    omega
  have hpre : (decide (1 ≤ s.length) && decide (s.length ≤ 8)) = true := by
    simp only [Bool.and_eq_true, decide_eq_true_eq]; omega
  conv => whnf
  refine ⟨fun hk => ?_, fun hk => ?_⟩ <;> simp at hk
  · conv => whnf
    repeat (refine QCall.k0 (refSmall s hs) ?_; conv => whnf)
    refine ⟨congrArg AV.bool ?_, rfl⟩
    unfold textOK
    rw [hpre, Bool.true_and]
    congr 1
    funext y
    unfold textCh
    simp [hk]
  · conv => whnf
    repeat (refine QCall.k0 (refSounds s hs) ?_; conv => whnf)
    refine ⟨congrArg AV.bool ?_, rfl⟩
    unfold textOK
    rw [hpre, Bool.true_and]
    congr 1
    funext y
    unfold textCh
    simp [hk]
end Go.Abs.Wall
set_option maxRecDepth 100000
set_option linter.unusedVariables false
namespace Go.Abs.Wall
open Go Go.Abs Go.Proofs
def c127 : Cfg := ⟨[0, 1, 2, 3, 4], [], [], [], [], []⟩
def c101 : Cfg := ⟨[0, 1, 2, 4, 5, 10, 20], [], [], [], [], []⟩
def c102 : Cfg := ⟨[0, 1, 2, 4, 5, 6, 7, 25, 29, 34, 57, 73, 76, 85], [], [6], [], [(16, [0, 1, 2, 3, 4, 5, 6], [])], []⟩
def c65 : Cfg := ⟨[0, 1, 2, 3, 4, 8, 16, 21, 43, 53], [], [], [], [(8, [0, 1, 2, 3, 4, 5, 6, 7, 8, 9, 10, 11, 12, 13, 14, 15, 16, 17, 18, 19], []), (10, [0, 1, 2, 3, 4, 5, 6, 7, 8], [])], []⟩
theorem refCollide (a b : Val) : QCall Try.prog 127 [.agg (encVal a), .agg (encVal b)] [] (.bool (meetB b a)) := by
  refine fcalls (F := Try.f127) c127 rfl rfl rfl mixed rfl fun X => ?_
  conv => whnf
  skip
  refine ⟨congrArg AV.bool ?_, rfl⟩
  unfold meetB
  rw [Bool.eq_iff_iff]
  simp only [Bool.and_eq_true, decide_eq_true_eq]
  constructor
  · rintro ⟨⟨⟨h1, h2⟩, h3⟩, h4⟩
    exact ⟨⟨⟨h1.symm, h2.symm, trivial⟩, h4⟩, h3⟩
  · rintro ⟨⟨⟨h1, h2, _⟩, h4⟩, h3⟩
    exact ⟨⟨⟨h1.symm, h2.symm⟩, h3⟩, h4⟩
theorem refIndex (l : Lst) (c : List UInt8) (hl : LstFit l) : QCall Try.prog 101 [.agg (encLst l), .str c] [] (.int .i64 (firstI (fun s : Sgn => decide (s.code = c)) l.signs)) := by
  refine fcalls (F := Try.f101) c101 rfl rfl rfl mixed rfl fun X => ?_
  conv => whnf
  have hl1 := hl.signs
  unfold LMAX at hl1
  refine sloop rfl mixed [1, 2, 5] [] (fun m r h => ∃ (i : Nat), r = [(1, [], .str c), (2, [], .iptr (encLst l)), (5, [], .int .i64 i)] ∧ h = [] ∧ m = l.signs.length - i ∧ i ≤ l.signs.length ∧ Below (fun s : Sgn => decide (s.code = c)) l.signs i) ?_ ?_
  · conv => whnf
    exact ⟨_, 0, rfl, rfl, rfl, by omega, .zero⟩
  · rintro m r h ⟨i, rfl, rfl, rfl, hi, hg⟩
    conv => whnf
    refine ⟨fun hc => ?_, fun hc => ?_⟩ <;> simp at hc
    · obtain ⟨x, hx⟩ := get_lt hc
      conv => whnf
      repeat (refine ix (by assumption) ?_; conv => whnf)
      refine ⟨fun hd => ?_, fun hd => ?_⟩
      · conv => whnf
        exact ⟨by rw [hg.at hx hd], rfl⟩
      · conv => whnf
        repeat (refine ⟨gP_of ⟨by omega, by omega⟩, ?_⟩; conv => whnf)
        exact ⟨_, by omega, i + 1, rfl, rfl, rfl, by omega, hg.succ hx hd⟩
    · conv => whnf
      exact ⟨by rw [hg.end hc], rfl⟩
theorem refSign (l : Lst) (s : Sgn) (hf : SgnFit s) : QCall Try.prog 102 [.agg (encSgn s), .int .i64 l.periods] [] (.int .i64 (sgnErr l s)) := by
  refine fcalls (F := Try.f102) c102 rfl rfl rfl mixed rfl fun X => ?_
  conv => whnf
  have hfv := hf.values
  unfold LMAX at hfv
  refine ⟨fun hz => ?_, fun hz => ?_⟩ <;> simp at hz
  · conv => whnf
    exact ⟨by rw [sgnErr, if_pos (by omega)], rfl⟩
  conv => whnf
  refine ⟨fun hy => ?_, fun hy => ?_⟩ <;> simp at hy
  · conv => whnf
    exact ⟨by rw [sgnErr, if_neg (by omega), if_pos (by omega)], rfl⟩
  have hse : sgnErr l s = valsErr l s.values s.values 0 := by rw [sgnErr, if_neg (by omega), if_neg (by omega)]
  conv => whnf
  refine sloop rfl mixed [1, 2, 5] [] (fun m r h => ∃ (i : Nat), r = [(1, [], .int .i64 l.periods), (2, [], .iptr (encSgn s)), (5, [], .int .i64 i)] ∧ h = [] ∧ m = s.values.length - i ∧ i ≤ s.values.length ∧ sgnErr l s = valsErr l s.values (s.values.drop i) i) ?_ ?_
  · conv => whnf
    exact ⟨_, 0, rfl, rfl, rfl, by omega, hse⟩
  · rintro m r h ⟨i, rfl, rfl, rfl, hi, hr⟩
    conv => whnf
    refine ⟨fun hc => ?_, fun hc => ?_⟩ <;> simp at hc
    · obtain ⟨v, hx⟩ := get_lt hc
      have hvt := hf.texts v (List.mem_of_getElem? hx)
      rw [drop_cons hx, valsErr] at hr
      conv => whnf
      repeat ((first | refine ix (by assumption) ?_ | refine gcall (refRight v.kind v.text hvt) ?_ | refine ⟨_, _, Rem.here _, ⟨Nat.le_of_ble_eq_true rfl, rfl⟩, ?_⟩ | intro (nb : Nat)); conv => whnf)
      refine ⟨fun hd => ?_, fun hd => ?_⟩
      · have he : valErr l (s.values.take i) v = 12 := by unfold valErr; rw [if_pos (by simpa [or_assoc] using hd)]
        rw [he, if_pos (by decide)] at hr
        conv => whnf
        exact ⟨by rw [hr], rfl⟩
      have hd' : ¬ (v.kind < 1 ∨ 3 < v.kind ∨ textOK v.kind v.text = false) := by
        intro hh
        have : (decide (v.kind < 1) || decide (3 < v.kind) || !(textOK v.kind v.text)) = true := by simpa [or_assoc] using hh
        rw [hd] at this; cases this
      conv => whnf
      skip
      refine ⟨fun he => ?_, fun he => ?_⟩
      · have he : valErr l (s.values.take i) v = 13 := by unfold valErr; rw [if_neg hd', if_pos (by simpa [or_assoc] using he)]
        rw [he, if_pos (by decide)] at hr
        conv => whnf
        exact ⟨by rw [hr], rfl⟩
      have he' : ¬ (v.fr < 1 ∨ v.to < v.fr ∨ l.periods < v.to) := by
        intro hh
        have : (decide (v.fr < 1) || decide (v.to < v.fr) || decide (l.periods < v.to)) = true := by simpa [or_assoc] using hh
        rw [he] at this; cases this
      have hve : valErr l (s.values.take i) v = if (s.values.take i).any (meetB v) = true then 12 else 0 := by
        unfold valErr; rw [if_neg hd', if_neg he']
      conv => whnf
      refine sloop rfl mixed [1, 2, 5, 6, 7] [] (fun m r h => ∃ (k : Nat), r = [(1, [], .int .i64 l.periods), (2, [], .iptr (encSgn s)), (5, [], .int .i64 i), (6, [], .iptr (encVal v)), (7, [], .int .i64 k)] ∧ h = [] ∧ m = i - k ∧ k ≤ i ∧ Below (meetB v) (s.values.take i) k) ?_ ?_
      · conv => whnf
        exact ⟨_, 0, rfl, rfl, rfl, by omega, .zero⟩
      · rintro m r h ⟨k, rfl, rfl, rfl, hk, hg⟩
        conv => whnf
        refine ⟨fun ha => ?_, fun ha => ?_⟩ <;> simp at ha
        · obtain ⟨w, hxw⟩ := get_lt (show k < s.values.length by omega)
          have hxw' : (s.values.take i)[k]? = some w := by rw [List.getElem?_take_of_lt ha]; exact hxw
          conv => whnf
          repeat ((first | refine ix (by assumption) ?_ | refine gcall (refCollide w v) ?_ | refine And.intro (by show drawOK (opsAt Try.f102 _) _ = true; decide +kernel) ?_); conv => whnf)
          refine ⟨fun hm => ?_, fun hm => ?_⟩
          · have : (s.values.take i).any (meetB v) = true := List.any_eq_true.2 ⟨w, List.mem_of_getElem? hxw', hm⟩
            rw [hve, if_pos this, if_pos (by decide)] at hr
            conv => whnf
            exact ⟨by rw [hr], rfl⟩
          · conv => whnf
            repeat (refine ⟨gP_of ⟨by omega, by omega⟩, ?_⟩; conv => whnf)
            exact ⟨_, by omega, k + 1, rfl, rfl, rfl, by omega, hg.succ hxw' hm⟩
        · have : ¬ (s.values.take i).any (meetB v) = true := by
            intro h
            obtain ⟨y, hy, hm⟩ := List.any_eq_true.1 h
            rw [hg.all (by simp; omega) y hy] at hm
            cases hm
          rw [hve, if_neg this, if_neg (by decide)] at hr
          conv => whnf
          repeat (refine ⟨gP_of ⟨by omega, by omega⟩, ?_⟩; conv => whnf)
          exact ⟨_, by omega, i + 1, rfl, rfl, rfl, by omega, hr⟩
    · rw [drop_nil hc] at hr
      conv => whnf
      exact ⟨by rw [hr]; rfl, rfl⟩
theorem first_lt {l : List Sgn} {i : Nat} {s : Sgn} (hx : l[i]? = some s) : firstI (fun x : Sgn => decide (x.code = s.code)) l < (i : Int) ↔ s.code ∈ (l.take i).map Sgn.code := by
  unfold firstI
  cases h : l.findIdx? (fun x : Sgn => decide (x.code = s.code)) with
  | none =>
    rw [List.findIdx?_eq_none_iff] at h
    have := h s (List.mem_of_getElem? hx)
    simp at this
  | some j =>
    rw [List.findIdx?_eq_some_iff_getElem] at h
    obtain ⟨h1, h2, h3⟩ := h
    simp only [decide_eq_true_eq] at h2 h3
    constructor
    · intro hlt
      have hlt : j < i := by simpa using hlt
      rw [← h2]
      refine List.mem_map.2 ⟨l[j], ?_, rfl⟩
      exact List.mem_iff_getElem?.2 ⟨j, by rw [List.getElem?_take_of_lt hlt]; exact List.getElem?_eq_getElem h1⟩
    · intro hm
      obtain ⟨y, hy, hc⟩ := List.mem_map.1 hm
      obtain ⟨k, hk⟩ := List.mem_iff_getElem?.1 hy
      have hki : k < i := by
        have := (List.getElem?_eq_some_iff.1 hk).1
        simp at this; omega
      rw [List.getElem?_take_of_lt hki] at hk
      obtain ⟨hk1, hk2⟩ := List.getElem?_eq_some_iff.1 hk
      show (j : Int) < (i : Int)
      by_cases hjk : k < j
      · have := h3 k hjk
        rw [hk2] at this
        exact absurd hc this
      · omega
theorem refCheck (l : Lst) (hl : LstFit l) : QCall Try.prog 65 [.agg (encLst l)] [] (.int .i64 (lstErr l)) := by
  have hl1 := hl.signs
  unfold LMAX at hl1
  refine fcalls (F := Try.f65) c65 rfl rfl rfl mixed rfl fun X => ?_
  conv => whnf
  refine ⟨fun hc => ?_, fun hc => ?_⟩ <;> simp at hc
  · conv => whnf
    exact ⟨by rw [lstErr, if_pos (by omega)], rfl⟩
  conv => whnf
  refine ⟨fun hd => ?_, fun hd => ?_⟩ <;> simp at hd
  · conv => whnf
    exact ⟨by rw [lstErr, if_neg (by omega), if_pos (by omega)], rfl⟩
  have hgo : lstErr l = lstGo l l.signs [] := by rw [lstErr, if_neg (by omega), if_neg (by omega)]
  conv => whnf
  refine sloop rfl mixed [1, 3] [] (fun m r h => ∃ (i : Nat), r = [(1, [], .iptr (encLst l)), (3, [], .int .i64 i)] ∧ h = [] ∧ m = l.signs.length - i ∧ i ≤ l.signs.length ∧ lstErr l = lstGo l (l.signs.drop i) ((l.signs.take i).map Sgn.code)) ?_ ?_
  · conv => whnf
    exact ⟨_, 0, rfl, rfl, rfl, by omega, hgo⟩
  · rintro m r h ⟨i, rfl, rfl, rfl, hi, hr⟩
    conv => whnf
    refine ⟨fun he => ?_, fun he => ?_⟩ <;> simp at he
    · obtain ⟨s, hx⟩ := get_lt he
      have hf := hl.each s (List.mem_of_getElem? hx)
      have hnext : (l.signs.take i).map Sgn.code ++ [s.code] = (l.signs.take (i + 1)).map Sgn.code := by
        rw [List.take_add_one, hx]; simp
      rw [drop_cons hx, lstGo, hnext] at hr
      simp only [← first_lt hx] at hr
      conv => whnf
      repeat ((first | refine ix (by assumption) ?_ | refine gcall (refCode s.code hf.code) ?_ | refine gcall (refIndex l s.code hl) ?_ | refine And.intro (by show drawOK (opsAt Try.f65 _) _ = true; decide +kernel) ?_); conv => whnf)
      refine ⟨fun hcc => ?_, fun hcc => ?_⟩
      · have hcc : codeOK s.code = false ∨ firstI (fun x : Sgn => decide (x.code = s.code)) l.signs < (i : Int) := by
          simpa [or_comm] using hcc
        conv => whnf
        exact ⟨by rw [hr, if_pos hcc], rfl⟩
      have hcc : ¬ (codeOK s.code = false ∨ firstI (fun x : Sgn => decide (x.code = s.code)) l.signs < (i : Int)) := by
        simp at hcc ⊢; exact ⟨hcc.1, hcc.2⟩
      rw [if_neg hcc] at hr
      conv => whnf
      repeat ((first | refine ix (by assumption) ?_ | refine gcall (refSign l s hf) ?_ | refine And.intro (by show drawOK (opsAt Try.f65 _) _ = true; decide +kernel) ?_); conv => whnf)
      refine ⟨fun hu => ?_, fun hu => ?_⟩ <;> simp at hu
      · rw [if_pos hu] at hr
        conv => whnf
        exact ⟨by rw [hr], rfl⟩
      · rw [if_neg (by simpa using hu)] at hr
        conv => whnf
        repeat (refine ⟨gP_of ⟨by omega, by omega⟩, ?_⟩; conv => whnf)
        exact ⟨_, by omega, i + 1, rfl, rfl, rfl, by omega, hr⟩
    · rw [drop_nil he] at hr
      conv => whnf
      exact ⟨by rw [hr]; rfl, rfl⟩
end Go.Abs.Wall
set_option maxRecDepth 100000
set_option linter.unusedVariables false
namespace Go.Abs.Wall
open Go Go.Abs Go.Proofs
/-! ### Clone, cells -/
def c107 : Cfg := ⟨[0, 2, 4], [5], [], [], [], []⟩
def c45 : Cfg := ⟨[0, 1, 2, 4, 5, 9, 16], [], [], [], [], []⟩
def c32 : Cfg := ⟨[0, 1, 2, 4, 5, 9, 16], [], [], [], [], []⟩
def c108 : Cfg := ⟨[0, 1, 4, 5, 9, 17], [], [], [], [], []⟩
def c94 : Cfg := ⟨[0, 1, 2, 4], [], [], [], [], []⟩
def c71 : Cfg := ⟨[0, 1, 2, 4], [], [], [], [], []⟩
def c105 : Cfg := ⟨[0, 1, 4, 5, 9, 40], [], [], [], [(4, [0, 1, 2, 3, 4, 5, 6, 7, 8, 9, 10, 11, 12, 13, 14, 15, 16, 17, 18, 19, 20, 21, 22, 23, 24, 25, 26, 27, 28], [])], []⟩
def c68 : Cfg := ⟨[0, 1, 4, 5, 6, 7, 10, 14, 51], [], [7], [], [], []⟩
theorem ints_ne {l : List Int} (h : l ≠ []) : ints l ≠ [] := by simpa [ints] using h
theorem cloneI (l : List Int) (hl : l.length ≤ AMAX) : QCall Try.prog 107 [.sl 1 none (ints l)] [] (.sl 1 none (ints l)) := by
  unfold AMAX at hl
  by_cases h : l = []
  · subst h
    refine QCall.of (ACalls.nilOr ?_ ?_)
    · refine fcalls (F := Try.f107) c107 rfl rfl rfl mixed rfl fun X => ?_
      conv => whnf
      refine ⟨fun hc => ?_, fun hc => ?_⟩
      · conv => whnf
        exact VLe.nil (by decide)
      · cases hc
    · refine fcalls (F := Try.f107) c107 rfl rfl rfl mixed rfl fun X => ?_
      conv => whnf
      refine ⟨fun hc => ?_, fun hc => ?_⟩
      · cases hc
      · conv => whnf
        intro q
        conv => whnf
        refine ⟨by simp [AMAX], fun q' => ⟨_, .here _, ?_⟩⟩
        conv => whnf
        exact VLe.sl
  · refine QCall.of (fcalls (F := Try.f107) c107 rfl rfl rfl mixed rfl fun X => ?_)
    conv => whnf
    refine ⟨ints_ne h, ?_⟩
    conv => whnf
    refine ⟨fun hc => ?_, fun hc => ?_⟩
    · cases hc
    · conv => whnf
      intro q
      conv => whnf
      refine ⟨by simp [AMAX]; omega, fun q' => ⟨_, .here _, ?_⟩⟩
      conv => whnf
      exact VLe.sl
theorem wallCheck (l : Lst) (cells : List Cel) (hl : LstFit l) (hc : cells.length ≤ LMAX) (hs : ∀ c ∈ cells, c.signs.length ≤ LMAX) :
    QCall Try.prog 45 [.agg (encLst l), .sl 3 none (cells.map encCel)] [] (.int .i64 (if lstErr l ≠ 0 then lstErr l else if right l.signs.length cells then 0 else 70)) := by
  refine fcalls (F := Try.f45) c45 rfl rfl rfl mixed rfl fun X => ?_
  conv => whnf
  have := hl.signs
  unfold LMAX at this
  repeat (refine QCall.k0 (signsCheck l hl) ?_; conv => whnf)
  refine ⟨fun hd => ?_, fun hd => ?_⟩ <;> simp at hd
  · conv => whnf
    exact ⟨by rw [if_pos hd], rfl⟩
  · conv => whnf
    rw [List.length_map]
    repeat (refine QCall.k0 (rightW cells l.signs.length (by omega) hc hs) ?_; conv => whnf)
    refine ⟨fun he => ?_, fun he => ?_⟩ <;> simp at he
    · conv => whnf
      exact ⟨by rw [if_neg (by simpa using hd), if_neg (by simp [he])], rfl⟩
    · conv => whnf
      exact ⟨by rw [if_neg (by simpa using hd), if_pos he], rfl⟩
theorem refHas (l : List Int) (v : Int) (hl : l.length ≤ LMAX) : QCall Try.prog 108 [.sl 1 none (ints l), .int .i64 v] [] (.bool (l.contains v)) := by
  refine fcalls (F := Try.f108) c108 rfl rfl rfl mixed rfl fun X => ?_
  conv => whnf
  unfold LMAX at hl
  refine sloop rfl mixed [0, 1, 5] [] (fun m r h => ∃ (i : Nat), r = [(0, [], .sl 1 none (ints l)), (1, [], .int .i64 v), (5, [], .int .i64 i)] ∧ h = [] ∧ m = l.length - i ∧ i ≤ l.length ∧ l.contains v = (l.drop i).contains v) ?_ ?_
  · conv => whnf
    exact ⟨_, 0, rfl, rfl, rfl, by omega, rfl⟩
  · rintro m r h ⟨i, rfl, rfl, rfl, hi, hr⟩
    conv => whnf
    refine ⟨fun hc => ?_, fun hc => ?_⟩ <;> simp at hc
    · obtain ⟨x, hx⟩ := get_lt hc
      rw [drop_cons hx, List.contains_cons] at hr
      conv => whnf
      repeat (refine ix (by assumption) ?_; conv => whnf)
      refine ⟨fun hd => ?_, fun hd => ?_⟩ <;> simp at hd
      · conv => whnf
        exact ⟨by rw [hr, hd]; simp, rfl⟩
      · rw [show (v == x) = false by simp; exact fun e => hd e.symm, Bool.false_or] at hr
        conv => whnf
        repeat (refine ⟨gP_of ⟨by omega, by omega⟩, ?_⟩; conv => whnf)
        exact ⟨_, by omega, i + 1, rfl, rfl, rfl, by omega, hr⟩
    · rw [drop_nil hc] at hr
      conv => whnf
      exact ⟨by rw [hr]; rfl, rfl⟩
def allows (c : Cel) (s : Int) : Bool := decide (c.signs = []) || c.signs.contains s
theorem len_nil (l : List Int) : decide ((((ints l).length : Nat) : Int) = 0) = decide (l = []) := by
  rw [decide_eq_decide]; simp
theorem allowsW (c : Cel) (s : Int) (hl : c.signs.length ≤ LMAX) : QCall Try.prog 94 [.agg (encCel c), .int .i64 s] [] (.bool (allows c s)) := by
  refine fcalls (F := Try.f94) c94 rfl rfl rfl mixed rfl fun X => ?_
  conv => whnf
  repeat (refine gcall (containsI c.signs s hl) ?_; conv => whnf)
  exact ⟨congrArg AV.bool (by unfold allows; rw [len_nil]), rfl⟩
theorem allowsR (c : Cel) (s : Int) (hl : c.signs.length ≤ LMAX) : QCall Try.prog 71 [.agg (encCel c), .int .i64 s] [] (.bool (allows c s)) := by
  refine fcalls (F := Try.f71) c71 rfl rfl rfl mixed rfl fun X => ?_
  conv => whnf
  repeat (refine gcall (refHas c.signs s hl) ?_; conv => whnf)
  exact ⟨congrArg AV.bool (by unfold allows; rw [len_nil]), rfl⟩
theorem good_eq {l : List Int} {n x : Int} {i : Nat} (hx : l[i]? = some x) : good l n i = !((decide (x < 0) || decide (n ≤ x)) || (decide ((0 : Int) < (i : Int)) && decide (x ≤ l.getD ((i : Int) - 1).toNat 0))) := by
  unfold good
  rw [hx]
  cases i with
  | zero =>
    simp only
    rw [Bool.eq_iff_iff]
    simp
    omega
  | succ i =>
    have h1 : i < l.length := by have := (List.getElem?_eq_some_iff.1 hx).1; omega
    simp only [List.getElem?_eq_getElem h1]
    rw [show (((i + 1 : Nat) : Int) - 1).toNat = i by omega, show l.getD i 0 = l[i] by simp [List.getD, List.getElem?_eq_getElem h1]]
    rw [Bool.eq_iff_iff]
    simp
    omega
theorem refAscend (l : List Int) (n : Int) (hl : l.length ≤ LMAX) : QCall Try.prog 105 [.sl 1 none (ints l), .int .i64 n] [] (.bool (rises l n)) := by
  refine fcalls (F := Try.f105) c105 rfl rfl rfl mixed rfl fun X => ?_
  conv => whnf
  unfold LMAX at hl
  refine sloop rfl mixed [0, 1, 5] [] (fun m r h => ∃ (i : Nat), r = [(0, [], .sl 1 none (ints l)), (1, [], .int .i64 n), (5, [], .int .i64 i)] ∧ h = [] ∧ m = l.length - i ∧ i ≤ l.length ∧ ∀ j, j < i → good l n j = true) ?_ ?_
  · conv => whnf
    exact ⟨_, 0, rfl, rfl, rfl, by omega, by intro j hj; omega⟩
  · rintro m r h ⟨i, rfl, rfl, rfl, hi, hr⟩
    conv => whnf
    refine ⟨fun hc => ?_, fun hc => ?_⟩ <;> simp at hc
    · obtain ⟨x, hx⟩ := get_lt hc
      have hge := good_eq (n := n) hx
      conv => whnf
      repeat ((first | refine ⟨gP_of ⟨by omega, by omega⟩, ?_⟩ | refine ix (by assumption) ?_ | (refine ixg 0 ?_ ?_; (conv => whnf); (intro h1 h2; simp at h2; show 0 ≤ _ ∧ _ < _; omega))
                     | refine And.intro (by show drawOK (opsAt Try.f105 _) _ = true; decide +kernel) ?_); conv => whnf)
      refine ⟨fun hd => ?_, fun hd => ?_⟩
      · have hg : good l n i = false := by rw [hge, Bool.not_eq_false']; exact hd
        conv => whnf
        refine ⟨congrArg AV.bool ?_, rfl⟩
        symm
        unfold rises
        rw [List.all_eq_false]
        exact ⟨i, List.mem_range.2 hc, by rw [hg]; decide⟩
      · have hg : good l n i = true := by rw [hge, Bool.not_eq_true']; exact hd
        conv => whnf
        repeat (refine ⟨gP_of ⟨by omega, by omega⟩, ?_⟩; conv => whnf)
        exact ⟨_, by omega, i + 1, rfl, rfl, rfl, by omega, fun j hj => by
          rcases Nat.lt_succ_iff_lt_or_eq.1 hj with h | rfl
          · exact hr j h
          · exact hg⟩
    · conv => whnf
      refine ⟨congrArg AV.bool ?_, rfl⟩
      symm
      unfold rises
      rw [List.all_eq_true]
      intro j hj
      exact hr j (by have := List.mem_range.1 hj; omega)
theorem celBad_or (n : Int) (c : Cel) : (decide (c.mn < 0) || decide (c.mx < c.mn) || decide (9 < c.mx) || (decide (n = 0) && decide (0 < c.mx)) || !(rises c.signs n)) = celBad n c := by
  unfold celBad
  rw [Bool.or_assoc _ (decide (n = 0) && _), Bool.or_comm (decide (n = 0) && _), ← Bool.or_assoc]
theorem rightR (cells : List Cel) (n : Int) (hl : cells.length ≤ LMAX) (hs : ∀ c ∈ cells, c.signs.length ≤ LMAX) :
    QCall Try.prog 68 [.sl 3 none (cells.map encCel), .int .i64 n] [] (.bool (right n cells)) := by
  refine fcalls (F := Try.f68) c68 rfl rfl rfl mixed rfl fun X => ?_
  conv => whnf
  refine ⟨fun hc => ?_, fun hc => ?_⟩ <;> simp at hc
  · have : ∀ (l : List Cel) (s : Int), rightGo n cells l s = false := by
      intro l
      induction l with
      | nil => intro s; simp [rightGo]; intro h; omega
      | cons c l ih => intro s; simp [rightGo, ih]
    conv => whnf
    exact ⟨congrArg AV.bool (this _ _).symm, rfl⟩
  conv => whnf
  refine sloop rfl mixed [0, 1, 5, 6] [] (fun m r h => ∃ (i : Nat) (s : Int), r = [(0, [], .sl 3 none (cells.map encCel)), (1, [], .int .i64 n), (5, [], .int .i64 s), (6, [], .int .i64 i)] ∧ h = [] ∧ m = cells.length - i ∧ i ≤ cells.length ∧ 0 ≤ s ∧ s ≤ 9 * i ∧ right n cells = rightGo n cells (cells.drop i) s) ?_ ?_
  · conv => whnf
    exact ⟨_, 0, 0, rfl, rfl, rfl, by omega, by omega, by omega, rfl⟩
  · rintro m r h ⟨i, s, rfl, rfl, rfl, hi, hs0, hs1, hr⟩
    conv => whnf
    refine ⟨fun hc => ?_, fun hc => ?_⟩ <;> simp at hc
    · obtain ⟨c, hx⟩ := get_lt hc
      have hcs := hs c (List.mem_of_getElem? hx)
      rw [drop_cons hx, rightGo] at hr
      conv => whnf
      repeat ((first | refine ix (by assumption) ?_ | refine gcall (refAscend c.signs n hcs) ?_ | refine ⟨_, _, Rem.here _, ⟨Nat.le_of_ble_eq_true rfl, rfl⟩, ?_⟩ | intro (nb : Nat)); conv => whnf)
      rw [celBad_or]
      refine ⟨fun hd => ?_, fun hd => ?_⟩
      · conv => whnf
        rw [hr, if_pos hd]
        exact ⟨rfl, rfl⟩
      · have hb : 0 ≤ c.mx ∧ c.mx ≤ 9 := by
          simp only [celBad, Bool.or_eq_false_iff, decide_eq_false_iff_not] at hd
          omega
        rw [if_neg (by simp [hd])] at hr
        conv => whnf
        repeat (refine ⟨gP_of ⟨by omega, by omega⟩, ?_⟩; conv => whnf)
        exact ⟨_, by omega, i + 1, s + c.mx, rfl, rfl, rfl, by omega, by omega, by omega, hr⟩
    · rw [drop_nil (by omega), rightGo] at hr
      conv => whnf
      rw [hr]
      exact ⟨by rw [show decide (cells.length ≤ 40) = true by simp; omega, Bool.true_and], rfl⟩
theorem refCheckW (l : Lst) (cells : List Cel) (hl : LstFit l) (hc : cells.length ≤ LMAX) (hs : ∀ c ∈ cells, c.signs.length ≤ LMAX) :
    QCall Try.prog 32 [.agg (encLst l), .sl 3 none (cells.map encCel)] [] (.int .i64 (if lstErr l ≠ 0 then lstErr l else if right l.signs.length cells then 0 else 70)) := by
  refine fcalls (F := Try.f32) c32 rfl rfl rfl mixed rfl fun X => ?_
  conv => whnf
  have := hl.signs
  unfold LMAX at this
  repeat (refine QCall.k0 (refCheck l hl) ?_; conv => whnf)
  refine ⟨fun hd => ?_, fun hd => ?_⟩ <;> simp at hd
  · conv => whnf
    exact ⟨by rw [if_pos hd], rfl⟩
  · conv => whnf
    rw [List.length_map]
    repeat (refine QCall.k0 (rightR cells l.signs.length hc hs) ?_; conv => whnf)
    refine ⟨fun he => ?_, fun he => ?_⟩ <;> simp at he
    · conv => whnf
      exact ⟨by rw [if_neg (by simpa using hd), if_neg (by simp [he])], rfl⟩
    · conv => whnf
      exact ⟨by rw [if_neg (by simpa using hd), if_pos he], rfl⟩
end Go.Abs.Wall
set_option maxRecDepth 100000
set_option linter.unusedVariables false
namespace Go.Abs.Wall
open Go Go.Abs Go.Proofs
/-! ### what two cells have in common -/
end Go.Abs.Wall

