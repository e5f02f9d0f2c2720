/- What is proved: small laws for the walks of this seat, and contracts of its functions. No condition but those each theorem names. -/
import Derived.Test.YthkokengobdgcaaGreatN14
import Derived.Test.YthkokengobdgcaaGreatN11
import Derived.Test.YthkokengobdgcaaGreatN7
set_option maxRecDepth 100000
set_option maxHeartbeats 2000000
set_option linter.unusedVariables false
set_option linter.unusedSimpArgs false
namespace Go.Abs.Wall
open Go Go.Abs Go.Proofs
/-! ### the readings from each place on, in order -/
abbrev Pth := Int × List Edg
def extC (x : Edg) (l : List Pth) : List Int := l.map fun p => x.cost + p.1
def mkR (es : List Edg) (T : Edg → List Pth) (w : Wy) : Pth := match es[w.edge]? with
  | none => (w.cost, [])
  | some x => (w.cost, x :: ((T x).getD w.rank (0, [])).2)
def tabE (T : List (List Pth)) (x : Edg) : List Pth := T.getD (x.word.uses.length - 1) []
def rdT : List (List Edg) → List (List Pth)
  | [] => [[(0, [])]]
  | es :: g => ((mgW (es.map fun x => extC x (tabE (rdT g) x))).map (mkR es (tabE (rdT g)))) :: rdT g
def rdV (g : List (List Edg)) (i : Nat) : List Pth := (rdT (g.drop i)).headD []
/-- the ways at a place -/
def clsG (g : List (List Edg)) (es : List Edg) : List (List Int) := es.map fun x => extC x (rdV g x.to.toNat)
/-- the least cost from a place on is that of the first way -/
theorem foldE_spec (t : List Int) (v : Edg → Int) : ∀ (es : List Edg) (r : Int), (∀ x ∈ es, t.getD (x.word.uses.length - 1) 0 = v x) → (∀ x ∈ es, -1 ≤ v x ∧ 0 ≤ x.cost) → -1 ≤ r →
    (es.foldl (edgeR t) r = r ∨ ∃ x ∈ es, v x ≠ -1 ∧ es.foldl (edgeR t) r = x.cost + v x) ∧ (r ≠ -1 → es.foldl (edgeR t) r ≠ -1 ∧ es.foldl (edgeR t) r ≤ r) ∧ (∀ x ∈ es, v x ≠ -1 → es.foldl (edgeR t) r ≠ -1 ∧ es.foldl (edgeR t) r ≤ x.cost + v x)
  | [], r, _, _, _ => ⟨.inl rfl, fun h => ⟨h, Int.le_refl _⟩, fun x hx => by cases hx⟩
  | x :: es, r, hv, hc, hr => by
    rw [List.foldl_cons]
    have hq : edgeR t r x = edgeStep (v x) r x.cost := by unfold edgeR; rw [hv x (by simp)]
    have hcx := hc x (by simp)
    obtain ⟨r', hr'⟩ : ∃ r', r' = edgeR t r x := ⟨_, rfl⟩
    rw [← hr']
    have hst : (r' = r ∨ v x ≠ -1 ∧ r' = x.cost + v x) ∧ (r ≠ -1 → r' ≠ -1 ∧ r' ≤ r) ∧ (v x ≠ -1 → r' ≠ -1 ∧ r' ≤ x.cost + v x) := by
      rw [hr', hq]
      unfold edgeStep
      split
      · rename_i h
        simp at h
        refine ⟨.inr ⟨h.1, rfl⟩, fun h2 => ?_, fun h2 => ?_⟩ <;> omega
      · rename_i h
        simp at h
        refine ⟨.inl rfl, fun h2 => ⟨h2, Int.le_refl _⟩, fun h2 => ?_⟩
        have := h h2
        omega
    obtain ⟨s1, s2, s3⟩ := hst
    obtain ⟨h1, h2, h3⟩ := foldE_spec t v es r' (fun y hy => hv y (by simp [hy])) (fun y hy => hc y (by simp [hy])) (by rcases s1 with e | ⟨e1, e2⟩ <;> omega)
    obtain ⟨z, hz⟩ : ∃ z, z = es.foldl (edgeR t) r' := ⟨_, rfl⟩
    rw [← hz] at h1 h2 h3 ⊢
    refine ⟨?_, fun hn => ?_, fun y hy hvy => ?_⟩
    · rcases h1 with e | ⟨y, hy, e⟩
      · rcases s1 with e2 | ⟨e2, e3⟩
        · exact .inl (e.trans e2)
        · exact .inr ⟨x, by simp, e2, e.trans e3⟩
      · exact .inr ⟨y, by simp [hy], e⟩
    · obtain ⟨a, b⟩ := s2 hn
      obtain ⟨c, d⟩ := h2 a
      exact ⟨c, by omega⟩
    · rcases List.mem_cons.1 hy with rfl | hy
      · obtain ⟨a, b⟩ := s3 hvy
        obtain ⟨c, d⟩ := h2 a
        exact ⟨c, by omega⟩
      · exact h3 y hy hvy
theorem restV_consM {g : List (List Edg)} {i : Nat} {es : List Edg} (h : g[i]? = some es) : restV g i = es.foldl (edgeR (restT (g.drop (i + 1)))) (-1) := by
  unfold restV
  rw [drop_cons h]; rfl
end Go.Abs.Wall
set_option maxRecDepth 100000
set_option maxHeartbeats 2000000
set_option linter.unusedVariables false
set_option linter.unusedSimpArgs false
namespace Go.Abs.Wall.Lst
open Go Go.Abs Go.Proofs Go.Abs.Wall
/-! ### a place's list of ways, found one by one -/
structure NodeS (cls : List (List Int)) (t : Nat) (due : Bool) (Q : List Wy) : Prop where
  ok : NodeOK cls t due Q
  few : Q.length + (if due = true then 1 else 0) ≤ 2000
  asked : t ≤ 65
def NodeH (cls : List (List Int)) (nk : Nat) (hp : Heap) : Prop := ∃ t due Q fv fh ov oh, NodeS cls t due Q ∧ Out 3 encWy ((mgW cls).take t) fv fh ∧ OpenR Q ov oh ∧ hp = (nk, .vec (ndC fv ov due)) :: (fh ++ oh)
def clsAt (g : List (List Edg)) (i : Nat) : List (List Int) := clsG g (g.getD i [])
inductive Nodes (g : List (List Edg)) : Nat → List Nat → Heap → Prop
  | nil (i : Nat) : Nodes g i [] []
  | cons {i k : Nat} {ks : List Nat} {h1 h2 : Heap} : NodeH (clsAt g i) k h1 → Nodes g (i + 1) ks h2 → Nodes g i (k :: ks) (h1 ++ h2)
theorem Nodes.split {g : List (List Edg)} : ∀ {i : Nat} {ks : List Nat} {hp : Heap} (n : Nat), Nodes g i ks hp → n ≤ ks.length → ∃ hA hB, hp = hA ++ hB ∧ Nodes g i (ks.take n) hA ∧ Nodes g (i + n) (ks.drop n) hB
  | i, ks, hp, 0, h, _ => ⟨[], hp, rfl, by simpa using .nil i, by simpa using h⟩
  | i, _, _, n + 1, .nil _, hn => by simp at hn
  | i, _, _, n + 1, .cons (k := k) (ks := ks) (h1 := h1) (h2 := h2) h1' h2', hn => by
    obtain ⟨hA, hB, rfl, e1, e2⟩ := Nodes.split n h2' (by simpa using hn)
    refine ⟨h1 ++ hA, hB, by rw [List.append_assoc], .cons h1' e1, ?_⟩
    rw [show i + (n + 1) = i + 1 + n by omega]
    exact e2
theorem Out.len {α : Type} {k : Nat} {enc : α → List AV} {o : List α} {v : AV} {hp : Heap} (h : Out k enc o v hp) : lenOf? v = some o.length := by
  rcases h with ⟨rfl, rfl, rfl⟩ | ⟨q, rfl, rfl⟩
  · rfl
  · simp [lenOf?]
end Go.Abs.Wall.Lst
set_option maxRecDepth 100000
set_option maxHeartbeats 2000000
set_option linter.unusedVariables false
set_option linter.unusedSimpArgs false
namespace Go.Abs.Wall.Lst
open Go Go.Abs Go.Proofs Go.Abs.Wall
/-! ### the program's list of readings -/
end Go.Abs.Wall.Lst

