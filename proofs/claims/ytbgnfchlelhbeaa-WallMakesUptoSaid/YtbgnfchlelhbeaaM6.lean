/- What is proved: small laws for the walks of this seat, and contracts of its functions. No condition but those each theorem names. -/
import Derived.Test.YtbgnfchlelhbeaaM5
import Derived.Test.YtbgnfchlelhbeaaM4
set_option maxRecDepth 100000
set_option linter.unusedVariables false
namespace Go.Abs.Wall
open Go Go.Abs Go.Proofs
/-! ### restorations -/
theorem pick_lt {a : Int} {l : List Int} {t : Int} : ∀ {p : List Int} {o k : Nat}, pick a l t p o = some k → o ≤ k ∧ k < o + p.length
  | [], o, k, h => by cases h
  | b :: p, o, k, h => by
    unfold pick at h
    split at h
    · cases h; simp
    · have := pick_lt h
      simp only [List.length_cons]; omega
theorem pairsGo_bd : ∀ (l p : List Int) (j : Nat), ∀ k ∈ pairsGo l p j, -1 ≤ k ∧ k < j + p.length
  | [], _, _, k, h => by cases h
  | a :: l, p, j, k, h => by
    unfold pairsGo at h
    split at h
    · cases List.mem_cons.1 h with
      | inl e => subst e; omega
      | inr e => exact pairsGo_bd l p j k e
    · rename_i o ho
      have hb := pick_lt ho
      cases List.mem_cons.1 h with
      | inl e => subst e; omega
      | inr e =>
        have := pairsGo_bd l (p.drop (o + 1)) (j + o + 1) k e
        simp only [List.length_drop] at this
        omega
def srcGo (par : List Int) : List Int → List Int → List Int
  | k :: ps, x :: l => (if 0 ≤ k ∧ par.getD k.toNat 0 ≠ x then -1 else k) :: srcGo par ps l
  | _, _ => []
def restored (cells : List Cel) (par line : List Int) : Rst := ⟨line, (divide cells line).getD [], srcGo par (pairsGo line par 0) line, dist line par⟩
def c74 : Cfg := ⟨[0, 1, 2, 6, 7, 8, 9, 10, 11, 30, 31, 32, 33, 49], [], [6], [], [(8, [0, 1, 2, 3, 4, 5, 6, 7, 8, 9, 10, 11, 12], [])], []⟩
theorem restoredW (cells : List Cel) (par line : List Int) (hc : CelsOK cells) (hp : par.length ≤ 60) (hl : line.length ≤ 60) :
    QCall Try.prog 74 [.sl 3 none (cells.map encCel), .sl 1 none (ints par), .sl 1 none (ints line)] [] (.agg (encRst (restored cells par line))) := by
  refine QCall.of (fcalls (F := Try.f74) c74 rfl rfl rfl mixed rfl fun X => ?_)
  conv => whnf
  intro b6
  conv => whnf
  repeat ((first | refine QCall.k0 (cloneI line (by unfold AMAX; omega)) ?_ | refine ⟨_, _, .here _, leOK, ?_⟩ | intro (nb : Nat)); conv => whnf)
  have hpl := pairsGo_length line par 0
  repeat ((first | refine QCall.k0 (divideW cells line hc hl) ?_ | refine QCall.k0 (alignW par line hp hl) ?_ | refine ⟨_, _, .here _, leOK, ?_⟩); conv => whnf)
  obtain ⟨PG, hPG⟩ : ∃ PG, PG = pairsGo line par 0 := ⟨_, rfl⟩
  have hbd : ∀ k ∈ PG, -1 ≤ k ∧ k < par.length := by rw [hPG]; intro k hk; have := pairsGo_bd line par 0 k hk; omega
  rw [← hPG] at hpl
  rw [← hPG]
  have hres : restored cells par line = ⟨line, (divide cells line).getD [], srcGo par PG line, dist line par⟩ := by unfold restored; rw [hPG]
  obtain ⟨D, hD⟩ : ∃ D, D = (divide cells line).getD [] := ⟨_, rfl⟩
  rw [← hD] at hres
  rw [← hD]
  refine sloop rfl mixed [1, 2, 6, 7, 30, 31, 32] [] (fun m r h => ∃ (i : Nat) (v : AV) (hp : Heap) (acc : List Int), r = [(1, [], .sl 1 none (ints par)), (2, [], .sl 1 none (ints line)), (6, [], .optr b6 0), (7, [], .optr nb 0), (30, [], .sl 1 none (ints PG)), (31, [], .int .i64 (ints PG).length), (32, [], .int .i64 i)] ∧ h = hp ++ [(nb, .vec [.sl 1 none (ints line), .sl 1 none (ints D), v, .int .i64 (dist line par)]), (b6, .vec [.nilS, .nilS, .nilS, .int .i64 0])] ∧ m = PG.length - i ∧ i ≤ PG.length ∧ acc.length = i ∧ srcGo par PG line = acc ++ srcGo par (PG.drop i) (line.drop i) ∧ ((acc = [] ∧ v = .nilS ∧ hp = []) ∨ ∃ q, v = .sl 1 (some q) (ints acc) ∧ hp = [(q, .tok)] ∧ acc ≠ [])) ?_ ?_
  · conv => whnf
    exact ⟨_, 0, .nilS, [], [], rfl, rfl, rfl, by omega, rfl, rfl, .inl ⟨rfl, rfl, rfl⟩⟩
  · rintro m r h ⟨i, v, hp, acc, rfl, rfl, rfl, hi, hacc, hr, hv⟩
    by_cases hlt : i < PG.length
    · obtain ⟨k, hk⟩ := get_lt hlt
      obtain ⟨x, hx⟩ := get_lt (show i < line.length by omega)
      have hkb := hbd k (List.mem_of_getElem? hk)
      rw [drop_cons hk, drop_cons hx, srcGo] at hr
      have fin : ∀ (z : Int), srcGo par PG line = acc ++ z :: srcGo par (PG.drop (i + 1)) (line.drop (i + 1)) → srcGo par PG line = (acc ++ [z]) ++ srcGo par (PG.drop (i + 1)) (line.drop (i + 1)) := by
        intro z hz; rw [hz, List.append_assoc]; rfl
      rcases hv with ⟨rfl, rfl, rfl⟩ | ⟨q, rfl, rfl, hne⟩
      all_goals
        conv => whnf
        refine cT (by simp <;> omega) ?_
        conv => whnf
        repeat ((first | refine ix (by assumption) ?_ | (refine ixg 0 ?_ ?_; (focus (conv => whnf; skip)); (focus (intro h1; have h1 := of_decide_eq_true h1; show 0 ≤ _ ∧ _ < _; omega)))
                       | refine And.intro (by show drawOK (opsAt Try.f74 _) _ = true; decide +kernel) ?_); conv => whnf)
        refine ⟨fun hb => ?_, fun hb => ?_⟩
        · rw [if_pos (by simpa using hb)] at hr
          conv => whnf
          repeat ((first | refine ⟨gP_of ⟨by omega, by omega⟩, ?_⟩ | (refine ⟨(by show 1 ≤ 4294967296; omega), fun q' => ?_⟩) | (refine ⟨(by rw [List.length_append, ints_length]; show _ + 1 ≤ 4294967296; omega), fun q' => ⟨_, .here _, ?_⟩⟩)
                         | refine ⟨_, _, .head _, rfl, ?_⟩ | refine ⟨_, _, .tail _ (.head _), rfl, ?_⟩ | refine ⟨_, _, .there (.here _), leOK, ?_⟩); conv => whnf)
          exact ⟨_, by omega, i + 1, _, [(q', .tok)], _ ++ [-1], rfl, rfl, rfl, by omega, by simp [hacc], fin _ hr, .inr ⟨q', by simp [ints] <;> rfl, rfl, by simp⟩⟩
        · rw [if_neg (by simpa using hb)] at hr
          conv => whnf
          repeat ((first | refine ⟨gP_of ⟨by omega, by omega⟩, ?_⟩ | (refine ⟨(by show 1 ≤ 4294967296; omega), fun q' => ?_⟩) | (refine ⟨(by rw [List.length_append, ints_length]; show _ + 1 ≤ 4294967296; omega), fun q' => ⟨_, .here _, ?_⟩⟩)
                         | refine ⟨_, _, .head _, rfl, ?_⟩ | refine ⟨_, _, .tail _ (.head _), rfl, ?_⟩ | refine ⟨_, _, .there (.here _), leOK, ?_⟩); conv => whnf)
          exact ⟨_, by omega, i + 1, _, [(q', .tok)], _ ++ [k], rfl, rfl, rfl, by omega, by simp [hacc], fin _ hr, .inr ⟨q', by simp [ints] <;> rfl, rfl, by simp⟩⟩
    · rw [drop_nil (by omega), show srcGo par [] (line.drop i) = [] by unfold srcGo; rfl, List.append_nil] at hr
      rcases hv with ⟨rfl, rfl, rfl⟩ | ⟨q, rfl, rfl, hne⟩
      · conv => whnf
        refine cF (by simp <;> omega) ?_
        conv => whnf
        repeat ((first | refine ⟨_, _, Rem.there (.here _), ?_⟩ | refine ⟨_, _, .head _, rfl, ?_⟩); conv => whnf)
        rw [hres, hr]
        refine ⟨⟨by simp, rfl⟩, ?_⟩
        conv => whnf
        exact VLe.agg (.cons (VLe.refl _) (.cons (VLe.refl _) (.cons (VLe.nil (k := 1) (by decide)) (.cons (VLe.refl _) .nil))))
      · conv => whnf
        refine cF (by simp <;> omega) ?_
        conv => whnf
        repeat (refine ⟨_, _, .tail _ (.head _), rfl, ?_⟩; conv => whnf)
        rw [hres, hr]
        refine ⟨_, _, .there (.there (.here _)), ⟨by simp, rfl⟩, ?_⟩
        conv => whnf
        exact VLe.agg (.cons (VLe.refl _) (.cons (VLe.refl _) (.cons VLe.sl (.cons (VLe.refl _) .nil))))
end Go.Abs.Wall
set_option maxRecDepth 100000
set_option linter.unusedVariables false
namespace Go.Abs.Wall
open Go Go.Abs Go.Proofs
/-! ### the search of the program: its object -/
abbrev Pos := Int × Int
def encPos (p : Pos) : List AV := [.int .i64 p.1, .int .i64 p.2]
def ekP (p : Pos) : AV := .agg (encPos p)
theorem eqPos (a b : Pos) : eqV Try.prog 141 (ekP a) (ekP b) = some (decide (a = b)) := by
  obtain ⟨a1, a2⟩ := a
  obtain ⟨b1, b2⟩ := b
  have h : eqV Try.prog 141 (ekP (a1, a2)) (ekP (b1, b2)) = some (decide (a1 = b1) && decide (a2 = b2)) := by
    conv => lhs; whnf
    by_cases h : a1 = b1 <;> by_cases h2 : a2 = b2 <;> simp [h, h2]
  rw [h, Option.some_inj, Bool.eq_iff_iff]
  simp
theorem plainPos : plainT Try.prog 141 = true := by decide +kernel
abbrev Idx := List (Pos × Int)
def encIdx (m : Idx) : List (AV × AV) := encA ekP (AV.int .i64) m
/-- the positions' slice, and its token -/
def PV (ps : List Pos) (v : AV) (T : Heap) : Prop := (ps = [] ∧ v = .nilS ∧ T = []) ∨ (ps ≠ [] ∧ ∃ q, v = .sl 2 (some q) (ps.map encPos) ∧ T = [(q, .tok)])
def sv (n : Int) (cells : List Cel) (par : List Int) (pv : AV) (m : Nat) (rv : AV) : List AV := [.int .i64 n, .sl 3 none (cells.map encCel), .sl 1 none (ints par), pv, .omap m, rv]
def c82 : Cfg := ⟨[0, 1, 3], [], [], [], [(1, [0, 1, 2, 3, 4, 5, 6, 7, 8, 9, 10], []), (2, [0, 1, 2, 3, 4, 5, 6, 7, 8, 9, 10], [])], []⟩
def c89 : Cfg := ⟨[0, 2], [], [], [], [], []⟩
theorem addNil (n : Int) (cells : List Cel) (par : List Int) (M : Idx) (rv : AV) (b m : Nat) (p : Pos) :
    ACalls Try.prog 82 [.optr b 0, ekP p] [(b, .vec (sv n cells par .nilS m rv)), (m, .map (encIdx M))] (fun v h' => v = .tup [] ∧ ∃ q, h' = [(q, .tok), (b, .vec (sv n cells par (.sl 2 (some q) [encPos p]) m rv)), (m, .map (encIdx (setA p 0 M)))]) := by
  refine fcalls (F := Try.f82) c82 rfl rfl rfl mixed rfl fun X => ?_
  conv => whnf
  unfold sv
  repeat ((first | (refine upA (ek := ekP) (ev := AV.int .i64) (k := p) (v := 0) (es := M) eqPos plainPos (.there (.here _)) ?_) | (refine ⟨(by show 1 ≤ 4294967296; omega), fun q => ?_⟩)
                 | (refine ⟨_, _, .there (.here _), ⟨Nat.le_of_ble_eq_true rfl, Nat.le_of_ble_eq_true rfl⟩, ?_⟩) | refine ⟨_, _, .head _, rfl, ?_⟩ | refine And.intro (by show drawOK (opsAt Try.f82 _) _ = true; decide +kernel) ?_); conv => whnf)
  exact ⟨rfl, q, rfl⟩
theorem addSl (n : Int) (cells : List Cel) (par : List Int) (M : Idx) (rv : AV) (b m q : Nat) (ps : List Pos) (p : Pos) (hps : ps.length ≤ 1048576) :
    ACalls Try.prog 82 [.optr b 0, ekP p] [(q, .tok), (b, .vec (sv n cells par (.sl 2 (some q) (ps.map encPos)) m rv)), (m, .map (encIdx M))]
      (fun v h' => v = .tup [] ∧ ∃ q', h' = [(q', .tok), (b, .vec (sv n cells par (.sl 2 (some q') ((ps ++ [p]).map encPos)) m rv)), (m, .map (encIdx (setA p ps.length M)))]) := by
  refine fcalls (F := Try.f82) c82 rfl rfl rfl mixed rfl fun X => ?_
  conv => whnf
  unfold sv
  rw [← List.length_map (f := encPos)] at hps
  repeat ((first | (refine upA (ek := ekP) (ev := AV.int .i64) (k := p) (v := (ps.map encPos).length) (es := M) eqPos plainPos (.there (.there (.here _))) ?_) | (refine ⟨(by rw [List.length_append]; show _ + 1 ≤ 4294967296; omega), fun q' => ⟨_, .here _, ?_⟩⟩)
                 | (refine ⟨_, _, .there (.here _), ⟨Nat.le_of_ble_eq_true rfl, Nat.le_of_ble_eq_true rfl⟩, ?_⟩) | refine ⟨_, _, .tail _ (.head _), rfl, ?_⟩ | refine And.intro (by show drawOK (opsAt Try.f82 _) _ = true; decide +kernel) ?_); conv => whnf)
  refine ⟨rfl, q', ?_⟩
  rw [List.length_map, List.map_append]
  rfl
theorem lastC (n : Int) (cells : List Cel) (par : List Int) (pv rv : AV) (b m q : Nat) (ps : List Pos) (M : Idx) (hps : ps.length ≤ 1048576) :
    QCall Try.prog 89 [.optr b 0] [(b, .vec (sv n cells par (.sl 2 (some q) (ps.map encPos)) m rv)), (m, .map (encIdx M))] (.int .i64 (ps.length - 1)) := by
  refine fcalls (F := Try.f89) c89 rfl rfl rfl mixed rfl fun X => ?_
  conv => whnf
  unfold sv
  rw [← List.length_map (f := encPos)] at hps ⊢
  repeat ((first | refine ⟨gP_of ⟨by omega, by omega⟩, ?_⟩ | refine ⟨_, _, .head _, rfl, ?_⟩); conv => whnf)
  exact ⟨rfl, rfl⟩
end Go.Abs.Wall
set_option maxRecDepth 100000
set_option linter.unusedVariables false
namespace Go.Abs.Wall
open Go Go.Abs Go.Proofs
/-! ### newSearch -/
def cellPos (i : Int) : Int → Nat → List Pos
  | _, 0 => []
  | k, n + 1 => (i, k) :: cellPos i (k + 1) n
def posOf : List Cel → Int → List Pos
  | [], i => [(i, 0)]
  | c :: cs, i => cellPos i 0 (c.mx + 1).toNat ++ posOf cs (i + 1)
def idxGo : List Pos → Int → Idx → Idx
  | [], _, M => M
  | p :: l, k, M => idxGo l (k + 1) (setA p k M)
def idxOf (ps : List Pos) : Idx := idxGo ps 0 []
theorem idxGo_snoc (p : Pos) : ∀ (l : List Pos) (k : Int) (M : Idx), idxGo (l ++ [p]) k M = setA p (k + l.length) (idxGo l k M)
  | [], k, M => by simp [idxGo]
  | x :: l, k, M => by
    rw [List.cons_append, idxGo, idxGo_snoc p l, idxGo]
    congr 1
    simp only [List.length_cons]; omega
theorem idxOf_snoc (p : Pos) (l : List Pos) : idxOf (l ++ [p]) = setA p (l.length : Int) (idxOf l) := by
  unfold idxOf; rw [idxGo_snoc]; simp
theorem cellPos_length (i : Int) : ∀ (n : Nat) (k : Int), (cellPos i k n).length = n
  | 0, _ => rfl
  | n + 1, k => by rw [cellPos, List.length_cons, cellPos_length i n]
theorem posOf_length : ∀ (cs : List Cel) (i : Int), (∀ c ∈ cs, 0 ≤ c.mx ∧ c.mx ≤ 9) → (posOf cs i).length ≤ 10 * cs.length + 1
  | [], i, _ => by simp [posOf]
  | c :: cs, i, h => by
    have h1 := posOf_length cs (i + 1) fun x hx => h x (by simp [hx])
    have h2 := h c (by simp)
    rw [posOf, List.length_append, cellPos_length, List.length_cons]
    omega
/-- the search's own objects -/
def sh (n : Int) (cells : List Cel) (par : List Int) (pv : AV) (ps : List Pos) (rv : AV) (b m : Nat) : Heap := [(b, .vec (sv n cells par pv m rv)), (m, .map (encIdx (idxOf ps)))]
theorem addAny {n : Int} {cells : List Cel} {par : List Int} {rv pv : AV} {T : Heap} {b m : Nat} {ps : List Pos} {p : Pos} {K : AV → Heap → Prop} (hps : ps.length ≤ 1048576) (hp : PV ps pv T)
    (hk : ∀ q, K (.tup []) ([(q, .tok)] ++ sh n cells par (.sl 2 (some q) ((ps ++ [p]).map encPos)) (ps ++ [p]) rv b m)) : ACalls Try.prog 82 [.optr b 0, ekP p] (T ++ sh n cells par pv ps rv b m) K := by
  rcases hp with ⟨rfl, rfl, rfl⟩ | ⟨hne, q, rfl, rfl⟩
  · refine ACalls.mono ?_ (addNil n cells par (idxOf []) rv b m p)
    rintro v h' ⟨rfl, q, rfl⟩
    have := hk q
    unfold sh at this
    rw [idxOf_snoc] at this
    exact this
  · refine ACalls.mono ?_ (addSl n cells par (idxOf ps) rv b m q ps p hps)
    rintro v h' ⟨rfl, q', rfl⟩
    have := hk q'
    unfold sh at this
    rw [idxOf_snoc] at this
    exact this
def c50 : Cfg := ⟨[0, 1, 2, 6, 7, 8, 9, 10, 17, 18, 19, 20, 26, 27, 28], [16], [9], [], [], []⟩
theorem newSearch (n : Int) (cells : List Cel) (par : List Int) (hc : CelsOK cells) :
    ACalls Try.prog 50 [.int .i64 n, .sl 3 none (cells.map encCel), .sl 1 none (ints par)] [] (fun v h' => ∃ b m q, v = .optr b 0 ∧ h' = [(q, .tok)] ++ sh n cells par (.sl 2 (some q) ((posOf cells 0).map encPos)) (posOf cells 0) .nilS b m) := by
  refine fcalls (F := Try.f50) c50 rfl rfl rfl mixed rfl fun X => ?_
  conv => whnf
  intro km
  conv => whnf
  intro b
  conv => whnf
  have hlen := hc.len
  have hpl := posOf_length cells 0 fun c hx => by have := hc.each c hx; omega
  refine sloop rfl mixed [1, 7, 17, 18, 19] [] (fun m r h => ∃ (i : Nat) (ps : List Pos) (pv : AV) (T : Heap), r = [(1, [], .sl 3 none (cells.map encCel)), (7, [], .optr b 0), (17, [], .sl 3 none (cells.map encCel)), (18, [], .int .i64 (cells.map encCel).length), (19, [], .int .i64 i)] ∧ h = T ++ sh n cells par pv ps .nilS b km ∧ m = cells.length - i ∧ i ≤ cells.length ∧ posOf cells 0 = ps ++ posOf (cells.drop i) i ∧ PV ps pv T) ?_ ?_
  · conv => whnf
    exact ⟨_, 0, [], .nilS, [], rfl, rfl, rfl, by omega, by simp, .inl ⟨rfl, rfl, rfl⟩⟩
  · rintro mm r h ⟨i, ps, pv, T, rfl, rfl, rfl, hi, hpos, hpv⟩
    conv => whnf
    refine ⟨fun hf => ?_, fun hf => ?_⟩ <;> simp at hf
    · obtain ⟨c, hx⟩ := get_lt hf
      have hcc := hc.each c (List.mem_of_getElem? hx)
      rw [drop_cons hx, posOf] at hpos
      conv => whnf
      repeat ((first | refine ⟨gP_of ⟨by omega, by omega⟩, ?_⟩ | refine ix (by assumption) ?_ | refine ⟨_, _, Rem.here _, ⟨Nat.le_of_ble_eq_true rfl, rfl⟩, ?_⟩ | intro (nb : Nat)); conv => whnf)
      refine sloop rfl mixed [1, 7, 8, 17, 18, 19, 26, 27] [] (fun m r h => ∃ (k : Nat) (ps : List Pos) (pv : AV) (T : Heap), r = [(1, [], .sl 3 none (cells.map encCel)), (7, [], .optr b 0), (8, [], .int .i64 i), (17, [], .sl 3 none (cells.map encCel)), (18, [], .int .i64 (cells.map encCel).length), (19, [], .int .i64 i), (26, [], .int .i64 (c.mx + 1)), (27, [], .int .i64 k)] ∧ h = T ++ sh n cells par pv ps .nilS b km ∧ m = (c.mx + 1).toNat - k ∧ k ≤ c.mx + 1 ∧ posOf cells 0 = ps ++ cellPos i k ((c.mx + 1).toNat - k) ++ posOf (cells.drop (i + 1)) (i + 1) ∧ PV ps pv T) ?_ ?_
      · conv => whnf
        exact ⟨_, 0, ps, pv, T, rfl, rfl, rfl, by omega, by rw [hpos, List.append_assoc]; rfl, hpv⟩
      · rintro mm r h ⟨k, ps, pv, T, rfl, rfl, rfl, hk, hpos, hpv⟩
        conv => whnf
        refine ⟨fun hf => ?_, fun hf => ?_⟩ <;> simp at hf
        · rw [show (c.mx + 1).toNat - k = ((c.mx + 1).toNat - (k + 1)) + 1 from by omega, cellPos] at hpos
          have hpl2 : ps.length ≤ 1048576 := by
            have := congrArg List.length hpos
            simp only [List.length_append] at this
            omega
          conv => whnf
          refine addAny (p := ((i : Int), (k : Int))) hpl2 hpv fun q => ?_
          conv => whnf
          repeat (refine ⟨gP_of ⟨by omega, by omega⟩, ?_⟩; conv => whnf)
          exact ⟨_, by omega, k + 1, _, _, [(q, .tok)], rfl, rfl, rfl, by omega, by rw [hpos]; simp, .inr ⟨by simp, q, rfl, rfl⟩⟩
        · have hk2 : (c.mx + 1).toNat - k = 0 := by omega
          rw [hk2, cellPos, List.append_nil] at hpos
          conv => whnf
          repeat (refine ⟨gP_of ⟨by omega, by omega⟩, ?_⟩; conv => whnf)
          exact ⟨_, by omega, i + 1, ps, pv, T, rfl, rfl, rfl, by omega, by simpa using hpos, hpv⟩
    · rw [drop_nil (by omega), posOf] at hpos
      have hpl2 : ps.length ≤ 1048576 := by
        have := congrArg List.length hpos
        simp only [List.length_append] at this
        omega
      conv => whnf
      refine addAny (p := ((cells.map encCel).length, 0)) hpl2 hpv fun q => ?_
      conv => whnf
      rw [List.length_map, show (cells.length : Int) = i from by omega, ← hpos]
      exact ⟨b, km, q, rfl, rfl⟩
end Go.Abs.Wall
set_option maxRecDepth 100000
set_option linter.unusedVariables false
namespace Go.Abs.Wall
open Go Go.Abs Go.Proofs
/-! ### the search: closed -/
def ins (x : Int) : List Int → List Int
  | [] => [x]
  | y :: l => if x ≤ y then x :: y :: l else y :: ins x l
def isort : List Int → List Int
  | [] => []
  | x :: l => ins x (isort l)
theorem ins_perm (x : Int) : ∀ l, (ins x l).Perm (x :: l)
  | [] => .refl _
  | y :: l => by
    unfold ins
    split
    · exact .refl _
    · exact ((ins_perm x l).cons y).trans (.swap x y l)
theorem isort_perm : ∀ l, (isort l).Perm l
  | [] => .refl _
  | x :: l => (ins_perm x _).trans ((isort_perm l).cons x)
theorem ins_sorted (x : Int) : ∀ {l : List Int}, l.Pairwise (· ≤ ·) → (ins x l).Pairwise (· ≤ ·)
  | [], _ => by simp [ins]
  | y :: l, h => by
    unfold ins
    rw [List.pairwise_cons] at h
    split
    · rename_i hxy
      rw [List.pairwise_cons]
      refine ⟨fun z hz => ?_, List.pairwise_cons.2 h⟩
      rcases List.mem_cons.1 hz with rfl | hz
      · exact hxy
      · have := h.1 z hz; omega
    · rename_i hxy
      rw [List.pairwise_cons]
      refine ⟨fun z hz => ?_, ins_sorted x h.2⟩
      rcases List.mem_cons.1 ((ins_perm x l).mem_iff.1 hz) with rfl | hz
      · omega
      · exact h.1 z hz
theorem isort_sorted : ∀ l : List Int, (isort l).Pairwise (· ≤ ·)
  | [] => by simp [isort]
  | x :: l => ins_sorted x (isort_sorted l)
theorem sort_eq {l l' : List Int} (hp : l.Perm l') : l.mergeSort (fun x y => decide (x ≤ y)) = isort l' := by
  refine List.Perm.eq_of_pairwise (le := (· ≤ ·)) (fun a b _ _ h1 h2 => by omega) ?_ (isort_sorted _) ((List.mergeSort_perm _ _).trans (hp.trans (isort_perm _).symm))
  have := List.pairwise_mergeSort (le := fun x y : Int => decide (x ≤ y)) (fun a b c h1 h2 => by simp at *; omega) (fun a b => by simp; omega) l
  exact this.imp (by simp)
def insL (x : Int) (l : List Int) : List Int := if x ∈ l then l else l ++ [x]
def onesI (l : List Int) : List (Int × Int) := l.map fun x => (x, 1)
theorem setA_ones (x : Int) : ∀ l : List Int, setA x 1 (onesI l) = onesI (insL x l)
  | [] => by simp [onesI, insL, setA]
  | y :: l => by
    have ih := setA_ones x l
    unfold onesI insL at ih ⊢
    rw [List.map_cons, setA]
    by_cases h : x = y
    · subst h; simp
    · rw [if_neg h, ih]
      by_cases h2 : x ∈ l
      · simp [h2]
      · simp [h2, h]
theorem lookA_ones (x : Int) : ∀ l : List Int, lookA x (onesI l) = if x ∈ l then some 1 else none
  | [] => by simp [onesI, lookA]
  | y :: l => by
    have ih := lookA_ones x l
    unfold onesI at ih ⊢
    rw [List.map_cons, lookA]
    by_cases h : x = y
    · subst h; simp
    · rw [if_neg h, ih]; simp [h]
theorem insL_nodup {x : Int} {l : List Int} (h : l.Nodup) : (insL x l).Nodup := by
  unfold insL
  split
  · exact h
  · rename_i hx
    rw [List.nodup_append]
    exact ⟨h, by simp, fun a ha b hb e => by simp at hb; subst hb; subst e; exact hx ha⟩
theorem eqInt (a b : Int) : eqV Try.prog 3 (.int .i64 a) (.int .i64 b) = some (decide (a = b)) := rfl
theorem plainInt : plainT Try.prog 3 = true := by decide +kernel
def encOnes (l : List Int) : List (AV × AV) := encA (AV.int .i64) (AV.int .i64) (onesI l)
/-- the number of the position behind a cell -/
def nextIx (ps : List Pos) (i : Int) : Int := (lookA (i + 1, 0) (idxOf ps)).getD 0
/-- a set with all that can be reached without a sign: how the program goes about it -/
def bfs (cells : List Cel) (ps : List Pos) : Nat → List Int → List Int → Option (List Int)
  | _, [], seen => some seen
  | 0, _ :: _, _ => none
  | f + 1, x :: q, seen => if x < 0 then none else match ps[x.toNat]? with
    | none => none
    | some p => if p.1 < 0 then none else
      if p.1 < cells.length ∧ (cells.getD p.1.toNat ⟨0, 0, []⟩).mn ≤ p.2 then
        (if nextIx ps p.1 ∈ insL x seen then bfs cells ps f q (insL x seen) else bfs cells ps f (q ++ [nextIx ps p.1]) (insL x seen))
      else bfs cells ps f q (insL x seen)
theorem sl1 {x : Int} {l : List Int} {t : Option Nat} {g : G} {K : AV → Prop} (hk : K (.sl 1 t (ints l))) :
    gP g (0 ≤ (1 : Int) ∧ (1 : Int) ≤ ((ints (x :: l)).length : Int) ∧ ((ints (x :: l)).length : Int) ≤ (ints (x :: l)).length) ∧ K (.sl 1 t (((ints (x :: l)).take ((ints (x :: l)).length : Int).toNat).drop (1 : Int).toNat)) := by
  refine ⟨gP_of ⟨by omega, by simp only [ints, List.length_map, List.length_cons]; omega, by omega⟩, ?_⟩
  rw [Int.toNat_natCast, List.take_length]
  exact hk
theorem upOnes {x : Int} {seen : List Int} {b : Nat} {h h' : Heap} {K : AV → Heap → Prop} (hu : Upd b (.map (encOnes seen)) b (.map (encOnes (insL x seen))) h h') (hk : K .unit h') :
    ∃ es h', Upd b (.map es) b (.map (mset Try.prog 3 (.int .i64 x) (.int .i64 1) es)) h h' ∧ (keyFits Try.prog 3 (.int .i64 x) ∧ mget Try.prog 3 (.int .i64 x) es ≠ none) ∧ K .unit h' := by
  unfold encOnes at hu
  rw [← setA_ones] at hu
  exact upA (ek := AV.int .i64) (ev := AV.int .i64) eqInt plainInt hu hk
theorem nil_le_nilO : VLe .nilS .nilO := by intro c u h; simpa [Rep] using h
theorem mem_len {c : List Nat} {n : Nat} (h1 : c.Nodup) (h2 : ∀ i ∈ c, i < n) : c.length ≤ n := by
  have := List.Nodup.length_le_of_subset h1 (l₂ := List.range n) (fun i hi => List.mem_range.2 (h2 i hi))
  simpa using this
theorem map_perm {c : List Nat} {R : List Int} (h1 : c.Nodup) (h2 : ∀ i ∈ c, i < R.length) (h3 : ∀ i, i < R.length → i ∈ c) : (c.map fun i => R.getD i 0).Perm R := by
  have hp : c.Perm (List.range R.length) := (List.perm_ext_iff_of_nodup h1 List.nodup_range).2 fun a => ⟨fun h => List.mem_range.2 (h2 a h), fun h => h3 a (List.mem_range.1 h)⟩
  have := hp.map fun i => R.getD i 0
  have e : (List.range R.length).map (fun i => R.getD i 0) = R := by
    apply List.ext_getElem
    · simp
    · intro i h1 h2
      simp [List.getD, List.getElem?_eq_getElem h2]
  rwa [e] at this
theorem encOnes_get {R : List Int} {i : Nat} {e : AV × AV} (h : (encOnes R)[i]? = some e) : ∃ x, R[i]? = some x ∧ e = (.int .i64 x, .int .i64 1) := by
  unfold encOnes encA onesI at h
  rw [List.getElem?_map, List.getElem?_map] at h
  cases hx : R[i]? with
  | none => rw [hx] at h; cases h
  | some x => rw [hx] at h; simp at h; exact ⟨x, rfl, h.symm⟩
def c53 : Cfg := ⟨[0, 1, 4, 5, 6, 7, 8, 9, 10, 14, 50, 63, 69, 71], [], [7], [], [(7, [0, 1, 2, 3, 4, 5, 6, 7, 8, 9, 10, 11, 12, 13, 14, 15, 16, 17, 18, 19, 20, 21], []), (8, [0, 1, 2, 3, 4, 5, 6, 7, 8, 9], [])], []⟩
def c84 : Cfg := ⟨[0, 2, 4, 8, 9, 10, 11], [], [4], [], [], []⟩
theorem total (n : Int) (cells : List Cel) (par : List Int) (pv rv : AV) (b km : Nat) (ps : List Pos) (hc : CelsOK cells) :
    QCall Try.prog 84 [.optr b 0] (sh n cells par pv ps rv b km) (.int .i64 ((cells.map (·.mx)).sum)) := by
  refine fcalls (F := Try.f84) c84 rfl rfl rfl mixed rfl fun X => ?_
  conv => whnf
  have hcl := hc.len
  repeat (refine ⟨_, _, .head _, rfl, ?_⟩; conv => whnf)
  refine sloop rfl mixed [2, 8, 9, 10] [] (fun m r h => ∃ (i : Nat) (s : Int), r = [(2, [], .int .i64 s), (8, [], .sl 3 none (cells.map encCel)), (9, [], .int .i64 (cells.map encCel).length), (10, [], .int .i64 i)] ∧ h = sh n cells par pv ps rv b km ∧ m = cells.length - i ∧ i ≤ cells.length ∧ 0 ≤ s ∧ s ≤ 9 * i ∧ (cells.map (·.mx)).sum = s + ((cells.drop i).map (·.mx)).sum) ?_ ?_
  · conv => whnf
    exact ⟨_, 0, 0, rfl, rfl, rfl, by omega, by omega, by omega, by simp⟩
  · rintro m r h ⟨i, s, rfl, rfl, rfl, hi, h0, h9, hs⟩
    conv => whnf
    refine ⟨fun hf => ?_, fun hf => ?_⟩ <;> simp at hf
    · obtain ⟨c, hx⟩ := get_lt hf
      have hcc := hc.each c (List.mem_of_getElem? hx)
      rw [drop_cons hx, List.map_cons, List.sum_cons] at hs
      conv => whnf
      repeat ((first | refine ⟨gP_of ⟨by omega, by omega⟩, ?_⟩ | refine ix (by assumption) ?_ | refine ⟨_, _, Rem.here _, ⟨Nat.le_of_ble_eq_true rfl, rfl⟩, ?_⟩ | intro (nb : Nat)); conv => whnf)
      exact ⟨_, by omega, i + 1, s + c.mx, rfl, rfl, rfl, by omega, by omega, by omega, by omega⟩
    · rw [drop_nil (by omega)] at hs
      conv => whnf
      exact ⟨by rw [hs]; simp, rfl⟩
theorem closed {n : Int} {cells : List Cel} {par : List Int} {pq : Nat} {rv : AV} {b km q0 : Nat} {ps : List Pos} {set0 R : List Int} {f0 : Nat} {K : AV → Heap → Prop} (hc : CelsOK cells) (hps : ps.length ≤ 1048576) (hset0 : set0.length + f0 ≤ 1048576)
    (hb0 : bfs cells ps f0 set0 [] = some R) (hR : R ≠ []) (hRl : R.length ≤ 1048576) (hk : K (.sl 1 none (ints (isort R))) (sh n cells par (.sl 2 (some pq) (ps.map encPos)) ps rv b km)) :
    ACalls Try.prog 53 [.optr b 0, .sl 1 (some q0) (ints set0)] ([(q0, .tok)] ++ sh n cells par (.sl 2 (some pq) (ps.map encPos)) ps rv b km) K := by
  suffices h : ACalls Try.prog 53 [.optr b 0, .sl 1 (some q0) (ints set0)] ([(q0, .tok)] ++ sh n cells par (.sl 2 (some pq) (ps.map encPos)) ps rv b km)
      (fun v h' => ∃ o hx, v = .osl o 0 (isort R).length 1 ∧ h' = (o, .vec (intsV (isort R))) :: hx ++ sh n cells par (.sl 2 (some pq) (ps.map encPos)) ps rv b km) by
    have h2 := ACalls.frz (R' := fun v h' => v = .sl 1 none (ints (isort R)) ∧ ∃ hx, h' = hx ++ sh n cells par (.sl 2 (some pq) (ps.map encPos)) ps rv b km) h (by
      rintro v h' ⟨o, hx, rfl, rfl⟩
      exact ⟨o, _, _, _, _, .here _, FzH.refl _, fzInts rfl, rfl, hx, rfl⟩)
    refine ACalls.post h2 ?_
    rintro v h' ⟨rfl, hx, rfl⟩
    refine ⟨_, _, hk, VLe.refl _, fun k o hm => List.mem_append_right _ hm, fun hnd => ?_⟩
    simp only [keys, List.map_append, List.nodup_append] at hnd ⊢
    exact hnd.2.1
  refine fcalls (F := Try.f53) c53 rfl rfl rfl mixed rfl fun X => ?_
  conv => whnf
  intro sm
  conv => whnf
  have hcl := hc.len
  refine sloop rfl mixed [0, 1, 5] [] (fun m r h => ∃ (set : List Int) (q : Nat) (seen : List Int) (f : Nat), r = [(0, [], .optr b 0), (1, [], .sl 1 (some q) (ints set)), (5, [], .omap sm)] ∧ h = [(sm, .map (encOnes seen)), (q, .tok)] ++ sh n cells par (.sl 2 (some pq) (ps.map encPos)) ps rv b km ∧ m = f ∧ bfs cells ps f set seen = some R ∧ seen.Nodup ∧ set.length + f ≤ 1048576) ?_ ?_
  · conv => whnf
    exact ⟨_, set0, q0, [], f0, rfl, rfl, rfl, hb0, by simp, hset0⟩
  · rintro f r h ⟨set, q, seen, _, rfl, rfl, rfl, hb, hnd, hset⟩
    cases set with
    | nil =>
      conv => whnf
      refine cF (by simp) ?_
      conv => whnf
      have hR : seen = R := by cases f <;> simpa [bfs] using hb
      subst hR
      refine ⟨_, .head _, fun bs cl ⟨hbl, hbn⟩ => ⟨_, .here _, fun it => ?_⟩⟩
      conv => whnf
      rw [show (encOnes seen).length = seen.length from by simp [encOnes, encA, onesI]] at hbl
      refine tloop rfl mixed [9, 69] [] (fun m r h => ∃ (ids : List Nat) (v : AV) (hp : Heap), r = [(9, [], v), (69, [], .oit it)] ∧ h = hp ++ ([(it, .iter sm cl (ids.map (bs.getD · 0))), (sm, .rmap (encOnes seen) bs cl), (q, .tok)] ++ sh n cells par (.sl 2 (some pq) (ps.map encPos)) ps rv b km) ∧ m = seen.length - ids.length ∧ ids.Nodup ∧ (∀ i ∈ ids, i < seen.length) ∧ ((ids = [] ∧ v = .nilO ∧ hp = []) ∨ ∃ o, v = .osl o 0 ids.length 1 ∧ hp = [(o, .vec (intsV (ids.map (seen.getD · 0))))])) ?_ ?_
      · conv => whnf
        exact ⟨_, _, Turn.weak (.cons nil_le_nilO (RLe.refl _)), _, [], _, _, rfl, rfl, rfl, by simp, by simp, .inl ⟨rfl, rfl, rfl⟩⟩
      · rintro mm r h ⟨ids, v, hp, rfl, rfl, rfl, hin, hil, hv⟩
        have hidl := mem_len hin hil
        rcases hv with ⟨rfl, rfl, rfl⟩ | ⟨o, rfl, rfl⟩
        · conv => whnf
          refine ⟨sm, cl, _, _, bs, .head _, .tail _ (.head _), fun hall => ?_, fun i y e hi he hn => ⟨_, .here _, ?_⟩⟩
          · exfalso
            cases bs with
            | nil => exact hR (List.eq_nil_of_length_eq_zero hbl.symm)
            | cons y bs => exact absurd (hall y (by simp)) (by simp)
          · obtain ⟨x, hx, rfl⟩ := encOnes_get he
            conv => whnf
            refine cT rfl ?_
            conv => whnf
            refine ⟨sm, cl, _, _, bs, .head _, .tail _ (.head _), i, y, _, _, rfl, hi, he, ?_⟩
            conv => whnf
            repeat ((refine ⟨⟨by show 0 < 1; omega, by show 1 ≤ 4294967296; omega⟩, fun o => ?_⟩); conv => whnf)
            have hil2 := (List.getElem?_eq_some_iff.1 hx).1
            refine ⟨_, _, Turn.refl _ _, _, by simp only [List.length_nil, List.length_singleton]; omega, [i], _, _, rfl, by simp [List.getD, hi, hx, intsV], rfl, by simp, by simpa using hil2, .inr ⟨o, rfl, rfl⟩⟩
        · conv => whnf
          refine ⟨sm, cl, _, _, bs, .tail _ (.head _), .tail _ (.tail _ (.head _)), fun hall => ?_, fun i y e hi he hn => ⟨_, .there (.here _), ?_⟩⟩
          · have hp : (ids.map (seen.getD · 0)).Perm seen := by
              refine map_perm hin hil fun i hi => ?_
              have hlt : i < bs.length := by omega
              have := hall bs[i] (List.getElem_mem _)
              obtain ⟨j, hj, e⟩ := List.mem_map.1 this
              have hjl := hil j hj
              have hjl2 : j < bs.length := by omega
              simp only [List.getD, List.getElem?_eq_getElem hjl2, Option.getD_some] at e
              have := (List.getElem_inj hbn).1 e
              subst this; exact hj
            conv => whnf
            refine cF rfl ?_
            conv => whnf
            have hsl : ids.length = (ids.map (seen.getD · 0)).length := by simp
            rw [hsl]
            refine ACalls.mono ?_ ((sort_acalls ⟨_, _, Try.func91, rfl, rfl⟩ (fun blk off cap zs w h1 h2 h3 => Try.slices_Sort_int blk off cap zs w h1 h2 h3) o (ids.map (seen.getD · 0))).frame _)
            rintro v' h' ⟨h1, ⟨rfl, rfl⟩, rfl⟩
            conv => whnf
            rw [sort_eq hp]
            refine ⟨o, _, ?_, rfl⟩
            rw [hp.length_eq, ← (isort_perm seen).length_eq]
          · obtain ⟨x, hx, rfl⟩ := encOnes_get he
            conv => whnf
            refine cT rfl ?_
            conv => whnf
            refine ⟨sm, cl, _, _, bs, .tail _ (.head _), .tail _ (.tail _ (.head _)), i, y, _, _, rfl, hi, he, ?_⟩
            conv => whnf
            repeat ((refine ⟨_, .head _, ⟨by simp [intsV], by show _ + 1 ≤ 4294967296; omega⟩, fun o' => ⟨_, .here _, ?_⟩⟩); conv => whnf)
            have hil2 := (List.getElem?_eq_some_iff.1 hx).1
            have hni : i ∉ ids := fun hm => hn (List.mem_map.2 ⟨i, hm, by simp [List.getD, hi]⟩)
            have hnd2 : (ids ++ [i]).Nodup := by rw [List.nodup_append]; exact ⟨hin, by simp, fun a ha b hb e => by simp at hb; subst hb; subst e; exact hni ha⟩
            have hil3 : ∀ j ∈ ids ++ [i], j < seen.length := by intro j hj; rcases List.mem_append.1 hj with h | h; exact hil j h; simp at h; omega
            have hml := mem_len hnd2 hil3
            simp only [List.length_append, List.length_singleton] at hml
            refine ⟨_, _, Turn.refl _ _, _, by simp only [List.length_append, List.length_singleton]; omega, ids ++ [i], _, _, rfl, by simp [List.getD, hi, hx, intsV], rfl, hnd2, hil3, .inr ⟨o', by simp, rfl⟩⟩
    | cons x set =>
      cases f with
      | zero => cases hb
      | succ f =>
      rw [bfs] at hb
      split at hb
      · cases hb
      rename_i hx0
      split at hb
      · cases hb
      rename_i p hp
      split at hb
      · cases hb
      rename_i hp0
      conv => whnf
      refine cT (by simp) ?_
      conv => whnf
      repeat ((first | (refine ix0 rfl ?_) | (refine sl1 ?_) | (refine upOnes (.here _) ?_) | (refine ⟨_, _, .tail _ (.tail _ (.head _)), rfl, ?_⟩) | (refine ixn x.toNat (by omega) hp ?_)
                     | (refine ixg ⟨0, 0, []⟩ ?_ ?_; (focus (conv => whnf; skip)); (focus (intro h1; have h1 := of_decide_eq_true h1; rw [List.length_map] at h1; show 0 ≤ _ ∧ _ < _; omega)))
                     | refine ⟨_, _, Rem.here _, ⟨Nat.le_of_ble_eq_true rfl, rfl⟩, ?_⟩ | refine And.intro (by show drawOK (opsAt Try.f53 _) _ = true; decide +kernel) ?_ | intro (nb : Nat)); conv => whnf)
      refine ⟨fun hb2 => ?_, fun hb2 => ?_⟩
      · simp only [Bool.and_eq_true, decide_eq_true_eq, List.length_map] at hb2
        rw [if_pos hb2] at hb
        conv => whnf
        repeat ((first | refine ⟨gP_of ⟨by omega, by omega⟩, ?_⟩ | (refine ⟨_, _, .tail _ (.tail _ (.head _)), rfl, ?_⟩) | (refine lkI (ek := ekP) (k := (p.1 + 1, 0)) (es := idxOf ps) (.tail _ (.tail _ (.tail _ (.head _)))) eqPos plainPos ?_)
                       | (refine lkI (ek := AV.int .i64) (k := nextIx ps p.1) (es := onesI (insL x seen)) (.head _) eqInt plainInt ?_) | refine And.intro (by show drawOK (opsAt Try.f53 _) _ = true; decide +kernel) ?_); conv => whnf)
        rw [lookA_ones]
        by_cases hin : nextIx ps p.1 ∈ insL x seen
        · rw [if_pos hin] at hb ⊢
          refine cF (by simp) ?_
          conv => whnf
          exact ⟨_, by omega, set, q, insL x seen, _, rfl, rfl, rfl, hb, insL_nodup hnd, by simp at hset; omega⟩
        · rw [if_neg hin] at hb ⊢
          refine cT (by simp) ?_
          conv => whnf
          simp only [List.length_cons] at hset
          repeat ((refine ⟨(by rw [List.length_append, ints_length]; show _ + 1 ≤ 4294967296; omega), fun q' => ⟨_, .there (.here _), ?_⟩⟩); conv => whnf)
          exact ⟨_, by omega, set ++ [nextIx ps p.1], q', insL x seen, _, by simp [ints]; rfl, rfl, rfl, hb, insL_nodup hnd, by simp; omega⟩
      · simp only [Bool.and_eq_false_iff, decide_eq_false_iff_not, List.length_map] at hb2
        rw [if_neg (by omega)] at hb
        conv => whnf
        exact ⟨_, by omega, set, q, insL x seen, _, rfl, rfl, rfl, hb, insL_nodup hnd, by simp at hset; omega⟩
end Go.Abs.Wall
set_option maxRecDepth 100000
set_option linter.unusedVariables false
namespace Go.Abs.Wall
open Go Go.Abs Go.Proofs
theorem insL_len (x : Int) (l : List Int) : l.length ≤ (insL x l).length ∧ (insL x l).length ≤ l.length + 1 ∧ 0 < (insL x l).length := by
  unfold insL
  split
  · rename_i h
    have := List.length_pos_of_mem h
    omega
  · simp
theorem bfs_len {cells : List Cel} {ps : List Pos} : ∀ {f : Nat} {q seen R : List Int}, bfs cells ps f q seen = some R → seen.length ≤ R.length ∧ R.length ≤ seen.length + f ∧ (q ≠ [] → 0 < R.length)
  | f, [], seen, R, h => by
    have : seen = R := by cases f <;> simpa [bfs] using h
    subst this
    exact ⟨Nat.le_refl _, by omega, fun h => absurd rfl h⟩
  | 0, _ :: _, seen, R, h => by cases h
  | f + 1, x :: q, seen, R, h => by
    have hx := insL_len x seen
    rw [bfs] at h
    split at h
    · cases h
    split at h
    · cases h
    split at h
    · cases h
    split at h
    · split at h
      · have := bfs_len h; exact ⟨by omega, by omega, fun _ => by omega⟩
      · have := bfs_len h; exact ⟨by omega, by omega, fun _ => by omega⟩
    · have := bfs_len h; exact ⟨by omega, by omega, fun _ => by omega⟩
/-! ### key -/
def keyL (set : List Int) : List UInt8 := runesL (set.map (· + 1))
def c87 : Cfg := ⟨[0, 2, 3, 5, 6, 7, 8, 9], [], [], [], [], []⟩
def c90 : Cfg := ⟨[0, 1, 2, 6, 7, 9, 10, 11, 12, 13, 14, 57, 75], [], [10], [], [(6, [0, 1, 2, 3, 4, 5, 6, 7, 8, 9, 10, 11, 12, 13, 14, 15, 16, 17, 18, 19, 20, 21, 22, 23, 24, 25, 26, 27, 28, 29, 30, 31, 32, 33], []), (7, [0, 1, 2, 3, 4, 5, 6, 7, 8, 9, 10, 11, 12, 13, 14], [])], []⟩
def c52 : Cfg := ⟨[0, 1, 2, 6, 7, 8, 9, 10, 11, 18, 24, 30, 31, 32, 39], [], [], [], [], []⟩
theorem key (set : List Int) (hne : set ≠ []) (hl : set.length ≤ 65536) (hb : ∀ x ∈ set, 0 ≤ x ∧ x ≤ 1048576) : QCall Try.prog 87 [.sl 1 none (ints set)] [] (.str (keyL set)) := by
  refine QCall.of' (fcalls (F := Try.f87) c87 rfl rfl rfl mixed rfl fun X => ?_)
  conv => whnf
  refine sloop rfl mixed [3, 6, 7, 8] [(3, 1)] (fun m r h => ∃ (i : Nat) (q : Nat) (rs : List Int), r = [(3, [], .sl 1 (some q) (rs.map fun n => [AV.int .i32 n])), (6, [], .sl 1 none (ints set)), (7, [], .int .i64 (ints set).length), (8, [], .int .i64 i)] ∧ h = [(q, .tok)] ∧ m = set.length - i ∧ i ≤ set.length ∧ rs.length = i ∧ set.map (· + 1) = rs ++ (set.drop i).map (· + 1)) ?_ ?_
  · conv => whnf
    refine ⟨by decide, fun q => ?_⟩
    conv => whnf
    exact ⟨_, 0, q, [], rfl, rfl, rfl, by omega, rfl, by simp⟩
  · rintro m r h ⟨i, q, rs, rfl, rfl, rfl, hi, hr, he⟩
    conv => whnf
    refine ⟨fun hf => ?_, fun hf => ?_⟩ <;> simp at hf
    · obtain ⟨x, hx⟩ := get_lt hf
      have hxb := hb x (List.mem_of_getElem? hx)
      rw [drop_cons hx, List.map_cons] at he
      conv => whnf
      repeat ((first | refine ⟨gP_of ⟨by omega, by omega⟩, ?_⟩ | refine ix (by assumption) ?_ | (refine ⟨(by rw [List.length_append, List.length_map]; show _ + 1 ≤ 4294967296; omega), fun q' => ⟨_, .here _, ?_⟩⟩)); conv => whnf)
      exact ⟨_, by omega, i + 1, q', rs ++ [x + 1], by simp, rfl, rfl, by omega, by simp [hr], by rw [he]; simp⟩
    · rw [drop_nil (by omega), List.map_nil, List.append_nil] at he
      conv => whnf
      refine ⟨rs, ⟨rfl, by intro e; subst e; exact hne (by simpa using he), by omega⟩, ?_⟩
      conv => whnf
      unfold keyL
      rw [he]
/-! ### after -/
def stepM (cells : List Cel) (ps : List Pos) (sign : Int) : List Int → Option (List Int)
  | [] => some []
  | x :: set => if x < 0 then none else match ps[x.toNat]? with
    | none => none
    | some p => if p.1 < 0 ∨ p.2 < 0 then none else
      if p.1 < cells.length ∧ p.2 < (cells.getD p.1.toNat ⟨0, 0, []⟩).mx ∧ allows (cells.getD p.1.toNat ⟨0, 0, []⟩) sign = true then
        (stepM cells ps sign set).map (((lookA (p.1, p.2 + 1) (idxOf ps)).getD 0) :: ·)
      else stepM cells ps sign set
def afterM (F : Nat) (cells : List Cel) (ps : List Pos) (set : List Int) (sign : Int) : Option (List Int) :=
  match stepM cells ps sign set with
  | none => none
  | some o => if o = [] then some [] else (bfs cells ps F o []).map isort
def setV (l : List Int) : AV := if l = [] then .nilS else .sl 1 none (ints l)
theorem stepM_len {cells : List Cel} {ps : List Pos} {sign : Int} : ∀ {set o : List Int}, stepM cells ps sign set = some o → o.length ≤ set.length
  | [], o, h => by cases h; simp
  | x :: set, o, h => by
    rw [stepM] at h
    split at h
    · cases h
    split at h
    · cases h
    split at h
    · cases h
    split at h
    · cases h2 : stepM cells ps sign set with
      | none => rw [h2] at h; cases h
      | some o2 =>
        rw [h2] at h
        cases h
        have := stepM_len h2
        simp; omega
    · have := stepM_len h; simp; omega
theorem getD_signs {cells : List Cel} (hc : CelsOK cells) (i : Nat) : (cells.getD i ⟨0, 0, []⟩).signs.length ≤ LMAX := by
  unfold LMAX
  by_cases h : i < cells.length
  · have := hc.each cells[i] (List.getElem_mem h)
    simp only [List.getD, List.getElem?_eq_getElem h, Option.getD_some]; omega
  · simp [List.getD, List.getElem?_eq_none (show cells.length ≤ i by omega)]
theorem getD_mx {cells : List Cel} (hc : CelsOK cells) (i : Nat) : (cells.getD i ⟨0, 0, []⟩).mx ≤ 9 := by
  by_cases h : i < cells.length
  · have := hc.each cells[i] (List.getElem_mem h)
    simp only [List.getD, List.getElem?_eq_getElem h, Option.getD_some]; omega
  · simp [List.getD, List.getElem?_eq_none (show cells.length ≤ i by omega)]
theorem after {n : Int} {cells : List Cel} {par : List Int} {pq : Nat} {rv : AV} {b km : Nat} {ps : List Pos} {set R : List Int} {sign : Int} {F : Nat} {K : AV → Heap → Prop} (hc : CelsOK cells) (hps : ps.length ≤ 1048576) (hset : set.length + F ≤ 1048576)
    (hb : afterM F cells ps set sign = some R) (hk : K (setV R) (sh n cells par (.sl 2 (some pq) (ps.map encPos)) ps rv b km)) :
    ACalls Try.prog 90 [.optr b 0, .sl 1 none (ints set), .int .i64 sign] (sh n cells par (.sl 2 (some pq) (ps.map encPos)) ps rv b km) K := by
  suffices h : ACalls Try.prog 90 [.optr b 0, .sl 1 none (ints set), .int .i64 sign] (sh n cells par (.sl 2 (some pq) (ps.map encPos)) ps rv b km)
      (fun v h' => ∃ hx, v = setV R ∧ h' = hx ++ sh n cells par (.sl 2 (some pq) (ps.map encPos)) ps rv b km) by
    refine ACalls.post h ?_
    rintro v h' ⟨hx, rfl, rfl⟩
    refine ⟨_, _, hk, VLe.refl _, fun k o hm => List.mem_append_right _ hm, fun hnd => ?_⟩
    simp only [keys, List.map_append, List.nodup_append] at hnd ⊢
    exact hnd.2.1
  have hcl := hc.len
  unfold afterM at hb
  split at hb
  · cases hb
  rename_i out hout
  have hol := stepM_len hout
  refine fcalls (F := Try.f90) c90 rfl rfl rfl mixed rfl fun X => ?_
  conv => whnf
  refine sloop rfl mixed [0, 2, 7, 11, 12, 13] [(7, 1)] (fun m r h => ∃ (i : Nat) (q : Nat) (acc : List Int), r = [(0, [], .optr b 0), (2, [], .int .i64 sign), (7, [], .sl 1 (some q) (ints acc)), (11, [], .sl 1 none (ints set)), (12, [], .int .i64 (ints set).length), (13, [], .int .i64 i)] ∧ h = [(q, .tok)] ++ sh n cells par (.sl 2 (some pq) (ps.map encPos)) ps rv b km ∧ m = set.length - i ∧ i ≤ set.length ∧ acc.length ≤ i ∧ (stepM cells ps sign (set.drop i)).map (acc ++ ·) = some out) ?_ ?_
  · conv => whnf
    refine ⟨by decide, fun q => ?_⟩
    conv => whnf
    exact ⟨_, 0, q, [], rfl, rfl, rfl, by omega, by simp, by simp [hout]⟩
  · rintro m r h ⟨i, q, acc, rfl, rfl, rfl, hi, hr, he⟩
    conv => whnf
    refine ⟨fun hf => ?_, fun hf => ?_⟩ <;> simp at hf
    · obtain ⟨x, hx⟩ := get_lt hf
      rw [drop_cons hx, stepM] at he
      split at he
      · cases he
      rename_i hx0
      split at he
      · cases he
      rename_i p hp
      split at he
      · cases he
      rename_i hp0
      have hmx := getD_mx hc p.1.toNat
      conv => whnf
      repeat ((first | refine ix (by assumption) ?_ | (refine ⟨_, _, .tail _ (.head _), rfl, ?_⟩) | (refine ixn x.toNat (by omega) hp ?_) | (refine ixg ⟨0, 0, []⟩ ?_ ?_; (focus (conv => whnf; skip)); (focus (intro h1; simp only [Bool.and_eq_true, decide_eq_true_eq, List.length_map] at h1; show 0 ≤ _ ∧ _ < _; omega)))
                     | refine gcall (allowsW (cells.getD p.1.toNat ⟨0, 0, []⟩) sign (getD_signs hc _)) ?_ | refine ⟨_, _, Rem.here _, ⟨Nat.le_of_ble_eq_true rfl, rfl⟩, ?_⟩
                     | refine And.intro (by show drawOK (opsAt Try.f90 _) _ = true; decide +kernel) ?_ | intro (nb : Nat)); conv => whnf)
      refine ⟨fun hb2 => ?_, fun hb2 => ?_⟩
      · simp only [Bool.and_eq_true, decide_eq_true_eq, List.length_map] at hb2
        rw [if_pos ⟨hb2.1.1, hb2.1.2, hb2.2⟩] at he
        obtain ⟨⟨hb3, hb4⟩, hb5⟩ := hb2
        conv => whnf
        repeat ((first | refine ⟨gP_of ⟨by omega, by omega⟩, ?_⟩ | (refine ⟨_, _, .tail _ (.head _), rfl, ?_⟩) | (refine lkI (ek := ekP) (k := (p.1, p.2 + 1)) (es := idxOf ps) (.tail _ (.tail _ (.head _))) eqPos plainPos ?_)
                       | (refine ⟨(by rw [List.length_append, ints_length]; show _ + 1 ≤ 4294967296; omega), fun q' => ⟨_, .here _, ?_⟩⟩) | refine And.intro (by show drawOK (opsAt Try.f90 _) _ = true; decide +kernel) ?_); conv => whnf)
        refine ⟨_, by omega, i + 1, q', acc ++ [(lookA (p.1, p.2 + 1) (idxOf ps)).getD 0], by simp [ints]; rfl, rfl, rfl, by omega, by simp; omega, ?_⟩
        rw [← he]
        cases stepM cells ps sign (set.drop (i + 1)) <;> simp
      · simp only [Bool.and_eq_false_iff, decide_eq_false_iff_not, List.length_map] at hb2
        rw [if_neg (by rintro ⟨h1, h2, h3⟩; rcases hb2 with (hb2 | hb2) | hb2; exact hb2 h1; exact hb2 h2; rw [h3] at hb2; cases hb2)] at he
        conv => whnf
        repeat (refine ⟨gP_of ⟨by omega, by omega⟩, ?_⟩; conv => whnf)
        exact ⟨_, by omega, i + 1, q, acc, rfl, rfl, rfl, by omega, by omega, he⟩
    · rw [drop_nil (by omega), stepM] at he
      simp at he
      subst he
      conv => whnf
      by_cases ha : acc = []
      · subst ha
        rw [if_pos rfl] at hb
        cases hb
        refine cT (by simp) ?_
        conv => whnf
        exact ⟨_, rfl, rfl⟩
      · rw [if_neg ha] at hb
        refine cF (by simpa using ha) ?_
        conv => whnf
        cases hbf : bfs cells ps F acc [] with
        | none => rw [hbf] at hb; cases hb
        | some R' =>
        rw [hbf] at hb
        cases hb
        have hbl := bfs_len hbf
        have hR' : R' ≠ [] := by intro e; subst e; simpa using hbl.2.2 ha
        refine closed hc hps (by omega) hbf hR' (by simp at hbl; omega) ?_
        conv => whnf
        refine ⟨[], ?_, rfl⟩
        unfold setV
        rw [if_neg (by intro e; have := (isort_perm R').length_eq; rw [e] at this; exact hR' (List.eq_nil_of_length_eq_zero this.symm))]
end Go.Abs.Wall
set_option maxRecDepth 100000
set_option linter.unusedVariables false
namespace Go.Abs.Wall
open Go Go.Abs Go.Proofs
theorem QCall.fr {P : Program} {f : FuncId} {args : List AV} {v : AV} {h T : Heap} {K : AV → Heap → Prop} (hq : QCall P f args h v) (hk : K v (h ++ T)) : ACalls P f args (h ++ T) K :=
  ACalls.mono (by rintro v' h' ⟨h1, ⟨rfl, rfl⟩, rfl⟩; exact hk) (ACalls.frame hq T)
theorem afterF {n : Int} {cells : List Cel} {par : List Int} {pq : Nat} {rv : AV} {b km : Nat} {ps : List Pos} {set R : List Int} {sign : Int} {F : Nat} {T : Heap} {K : AV → Heap → Prop} (hc : CelsOK cells) (hps : ps.length ≤ 1048576) (hset : set.length + F ≤ 1048576)
    (hb : afterM F cells ps set sign = some R) (hk : K (setV R) (sh n cells par (.sl 2 (some pq) (ps.map encPos)) ps rv b km ++ T)) :
    ACalls Try.prog 90 [.optr b 0, .sl 1 none (ints set), .int .i64 sign] (sh n cells par (.sl 2 (some pq) (ps.map encPos)) ps rv b km ++ T) K :=
  ACalls.mono (by rintro v' h' ⟨h1, ⟨rfl, rfl⟩, rfl⟩; exact hk) (ACalls.frame (after (K := fun v h => v = setV R ∧ h = sh n cells par (.sl 2 (some pq) (ps.map encPos)) ps rv b km) hc hps hset hb ⟨rfl, rfl⟩) T)
/-! ### count -/
abbrev Kn := List (List UInt8 × Int)
def encKn (k : Kn) : List (AV × AV) := encA AV.str (AV.int .i64) k
def setOK (F : Nat) (set : List Int) : Bool := decide (set ≠ []) && decide (set.length + F ≤ 65536) && set.all (fun x => decide (0 ≤ x) && decide (x ≤ 1048576))
def CMAX : Int := 1099511627776
def cntGo (rec : List Int → Kn → Option (Int × Kn)) (F : Nat) (cells : List Cel) (ps : List Pos) (set : List Int) : List Int → Int → Kn → Option (Int × Kn)
  | [], n, kn => some (n, kn)
  | s :: ss, n, kn => match afterM F cells ps set s with
    | none => none
    | some nx => if nx = [] then cntGo rec F cells ps set ss n kn else match rec nx kn with
      | none => none
      | some (c, kn2) => if 0 ≤ c ∧ c ≤ CMAX then cntGo rec F cells ps set ss (min (n + c) CMAX) kn2 else none
def upto (n : Int) : List Int := (List.range n.toNat).map fun (i : Nat) => (i : Int)
theorem upto_len (n : Int) : (upto n).length = n.toNat := by unfold upto; simp
theorem upto_get {n : Int} {i : Nat} (h : (i : Int) < n) : (upto n)[i]? = some (i : Int) := by
  unfold upto
  rw [List.getElem?_map, List.getElem?_range (by omega)]; rfl
def countM (n : Int) (F : Nat) (cells : List Cel) (ps : List Pos) : Nat → List Int → Kn → Option (Int × Kn)
  | 0, _, _ => none
  | f + 1, set, kn => if setOK F set = false then none else
    if 0 < (lookA (keyL set) kn).getD 0 then (if (lookA (keyL set) kn).getD 0 ≤ CMAX + 1 then some ((lookA (keyL set) kn).getD 0 - 1, kn) else none) else
    match cntGo (countM n F cells ps f) F cells ps set (upto n) (if (ps.length - 1 : Int) ∈ set then 1 else 0) kn with
    | none => none
    | some (c, kn2) => some (c, setA (keyL set) (c + 1) kn2)
theorem count {n : Int} {cells : List Cel} {par : List Int} {pq : Nat} {rv : AV} {b km kn : Nat} {ps : List Pos} {F : Nat} (hn0 : 0 ≤ n) (hn : n ≤ 1048576) (hc : CelsOK cells) (hps : ps.length ≤ 1048576) :
    ∀ (f : Nat) (set : List Int) (k k2 : Kn) (r0 : Int) (K : AV → Heap → Prop), countM n F cells ps f set k = some (r0, k2) → K (.int .i64 r0) (sh n cells par (.sl 2 (some pq) (ps.map encPos)) ps rv b km ++ [(kn, .map (encKn k2))]) →
    ACalls Try.prog 52 [.optr b 0, .sl 1 none (ints set), .omap kn] (sh n cells par (.sl 2 (some pq) (ps.map encPos)) ps rv b km ++ [(kn, .map (encKn k))]) K
  | 0, set, k, k2, r0, K, h, _ => by cases h
  | f + 1, set, k, k2, r0, K, h, hK => by
    have ih := @count n cells par pq rv b km kn ps F hn0 hn hc hps f
    rw [countM] at h
    split at h
    · cases h
    rename_i hok
    have hok : setOK F set = true := by cases hh : setOK F set with | true => rfl | false => exact absurd hh hok
    unfold setOK at hok
    simp only [Bool.and_eq_true, decide_eq_true_eq, List.all_eq_true] at hok
    obtain ⟨⟨hne, hsl⟩, hsb⟩ := hok
    suffices hh : ACalls Try.prog 52 [.optr b 0, .sl 1 none (ints set), .omap kn] (sh n cells par (.sl 2 (some pq) (ps.map encPos)) ps rv b km ++ [(kn, .map (encKn k))])
        (fun v h' => v = .int .i64 r0 ∧ h' = sh n cells par (.sl 2 (some pq) (ps.map encPos)) ps rv b km ++ [(kn, .map (encKn k2))]) by
      exact ACalls.mono (by rintro v h' ⟨rfl, rfl⟩; exact hK) hh
    refine fcalls (F := Try.f52) c52 rfl rfl rfl mixed rfl fun X => ?_
    conv => whnf
    repeat ((first | refine QCall.k0 (key set hne (by omega) hsb) ?_ | (refine lkI (ek := AV.str) (k := keyL set) (es := k) (.tail _ (.tail _ (.head _))) eqStr plainStr ?_)); conv => whnf)
    have hcm : CMAX = 1099511627776 := rfl
    have e0 : ∀ (a : Option Int) (b : Bool), okTup false (AV.int .i64 (a.getD 0)) b = .int .i64 (a.getD 0) := fun _ _ => rfl
    split at h
    · rename_i hv
      split at h
      · rename_i hv2
        cases h
        refine cT (by simpa using hv) ?_
        conv => whnf
        repeat (refine ⟨gP_of ⟨by omega, by omega⟩, ?_⟩; conv => whnf)
        exact ⟨rfl, rfl⟩
      · cases h
    · rename_i hv
      refine cF (by simpa using hv) ?_
      cases hgo : cntGo (countM n F cells ps f) F cells ps set (upto n) (if (ps.length - 1 : Int) ∈ set then 1 else 0) k with
      | none => rw [hgo] at h; cases h
      | some ck =>
      obtain ⟨c, kn2⟩ := ck
      rw [hgo] at h
      cases h
      conv => whnf
      repeat ((first | (refine QCall.fr (lastC n cells par .nilS rv b km pq ps (idxOf ps) hps) ?_) | refine QCall.k0 (containsI set _ (by unfold LMAX; omega)) ?_); conv => whnf)
      obtain ⟨n0, hn0'⟩ : ∃ n0 : Int, n0 = if (ps.length - 1 : Int) ∈ set then 1 else 0 := ⟨_, rfl⟩
      rw [← hn0'] at hgo
      have hn01 : 0 ≤ n0 ∧ n0 ≤ 1 := by rw [hn0']; split <;> omega
      refine ⟨fun hm => ?_, fun hm => ?_⟩
      · rw [if_pos (by simpa using hm)] at hn0'
        conv => whnf
        repeat ((first | refine ⟨gP_of ⟨by omega, by omega⟩, ?_⟩ | refine ⟨_, _, .head _, rfl, ?_⟩); conv => whnf)
        subst hn0'
        refine sloop rfl mixed [0, 1, 2, 7, 9, 30, 31] [] (fun m r h => ∃ (i : Nat) (c : Int) (kk : Kn), r = [(0, [], .optr b 0), (1, [], .sl 1 none (ints set)), (2, [], .omap kn), (7, [], .str (keyL set)), (9, [], .int .i64 c), (30, [], .int .i64 n), (31, [], .int .i64 i)] ∧ h = sh n cells par (.sl 2 (some pq) (ps.map encPos)) ps rv b km ++ [(kn, .map (encKn kk))] ∧ m = n.toNat - i ∧ i ≤ n ∧ 0 ≤ c ∧ c ≤ CMAX ∧ cntGo (countM n F cells ps f) F cells ps set ((upto n).drop i) c kk = some (r0, kn2)) ?_ ?_
        · conv => whnf
          exact ⟨_, 0, _, k, rfl, rfl, rfl, by omega, by omega, by omega, hgo⟩
        · rintro m rr h ⟨i, c, kk, rfl, rfl, rfl, hi, hc0, hcM, he⟩
          conv => whnf
          refine ⟨fun hf => ?_, fun hf => ?_⟩ <;> simp at hf
          · have hx := upto_get (n := n) hf
            rw [drop_cons hx, cntGo] at he
            split at he
            · cases he
            rename_i nx hnx
            conv => whnf
            refine afterF hc hps (by omega) hnx ?_
            by_cases hz : nx = []
            · rw [if_pos hz] at he
              rw [show setV nx = .nilS from by unfold setV; rw [if_pos hz]]
              conv => whnf
              refine cF rfl ?_
              conv => whnf
              repeat (refine ⟨gP_of ⟨by omega, by omega⟩, ?_⟩; conv => whnf)
              exact ⟨_, by omega, i + 1, c, kk, rfl, rfl, rfl, by omega, hc0, hcM, he⟩
            · rw [if_neg hz] at he
              rw [show setV nx = .sl 1 none (ints nx) from by unfold setV; rw [if_neg hz]]
              split at he
              · cases he
              rename_i c2 kk2 hrec
              split at he
              · rename_i hc2
                conv => whnf
                refine ⟨by simpa [gP, ints] using hz, ?_⟩
                conv => whnf
                refine cT rfl ?_
                conv => whnf
                refine ih nx kk kk2 c2 _ hrec ?_
                conv => whnf
                repeat (refine ⟨gP_of ⟨by omega, by omega⟩, ?_⟩; conv => whnf)
                exact ⟨_, by omega, i + 1, _, kk2, rfl, rfl, rfl, by omega, by omega, by omega, he⟩
              · cases he
          · rw [drop_nil (by rw [upto_len]; omega), cntGo] at he
            cases he
            conv => whnf
            repeat ((first | refine ⟨gP_of ⟨by omega, by omega⟩, ?_⟩ | (refine upA (ek := AV.str) (ev := AV.int .i64) (k := keyL set) (v := r0 + 1) (es := kn2) eqStr plainStr (.there (.there (.here _))) ?_)); conv => whnf)
            exact ⟨rfl, rfl⟩
      · rw [if_neg (by simpa using hm)] at hn0'
        conv => whnf
        repeat (refine ⟨_, _, .head _, rfl, ?_⟩; conv => whnf)
        subst hn0'
        refine sloop rfl mixed [0, 1, 2, 7, 9, 30, 31] [] (fun m r h => ∃ (i : Nat) (c : Int) (kk : Kn), r = [(0, [], .optr b 0), (1, [], .sl 1 none (ints set)), (2, [], .omap kn), (7, [], .str (keyL set)), (9, [], .int .i64 c), (30, [], .int .i64 n), (31, [], .int .i64 i)] ∧ h = sh n cells par (.sl 2 (some pq) (ps.map encPos)) ps rv b km ++ [(kn, .map (encKn kk))] ∧ m = n.toNat - i ∧ i ≤ n ∧ 0 ≤ c ∧ c ≤ CMAX ∧ cntGo (countM n F cells ps f) F cells ps set ((upto n).drop i) c kk = some (r0, kn2)) ?_ ?_
        · conv => whnf
          exact ⟨_, 0, _, k, rfl, rfl, rfl, by omega, by omega, by omega, hgo⟩
        · rintro m rr h ⟨i, c, kk, rfl, rfl, rfl, hi, hc0, hcM, he⟩
          conv => whnf
          refine ⟨fun hf => ?_, fun hf => ?_⟩ <;> simp at hf
          · have hx := upto_get (n := n) hf
            rw [drop_cons hx, cntGo] at he
            split at he
            · cases he
            rename_i nx hnx
            conv => whnf
            refine afterF hc hps (by omega) hnx ?_
            by_cases hz : nx = []
            · rw [if_pos hz] at he
              rw [show setV nx = .nilS from by unfold setV; rw [if_pos hz]]
              conv => whnf
              refine cF rfl ?_
              conv => whnf
              repeat (refine ⟨gP_of ⟨by omega, by omega⟩, ?_⟩; conv => whnf)
              exact ⟨_, by omega, i + 1, c, kk, rfl, rfl, rfl, by omega, hc0, hcM, he⟩
            · rw [if_neg hz] at he
              rw [show setV nx = .sl 1 none (ints nx) from by unfold setV; rw [if_neg hz]]
              split at he
              · cases he
              rename_i c2 kk2 hrec
              split at he
              · rename_i hc2
                conv => whnf
                refine ⟨by simpa [gP, ints] using hz, ?_⟩
                conv => whnf
                refine cT rfl ?_
                conv => whnf
                refine ih nx kk kk2 c2 _ hrec ?_
                conv => whnf
                repeat (refine ⟨gP_of ⟨by omega, by omega⟩, ?_⟩; conv => whnf)
                exact ⟨_, by omega, i + 1, _, kk2, rfl, rfl, rfl, by omega, by omega, by omega, he⟩
              · cases he
          · rw [drop_nil (by rw [upto_len]; omega), cntGo] at he
            cases he
            conv => whnf
            repeat ((first | refine ⟨gP_of ⟨by omega, by omega⟩, ?_⟩ | (refine upA (ek := AV.str) (ev := AV.int .i64) (k := keyL set) (v := r0 + 1) (es := kn2) eqStr plainStr (.there (.there (.here _))) ?_)); conv => whnf)
            exact ⟨rfl, rfl⟩
end Go.Abs.Wall
set_option maxRecDepth 100000
set_option linter.unusedVariables false
namespace Go.Abs.Wall
open Go Go.Abs Go.Proofs
/-! ### bound -/
def encTab (t : List (List Int)) : List AV := [.sl 1 none (t.map fun r => [AV.sl 1 none (ints r)])]
def far : Int := 1048576
def bndJ : List Int → List Int → Int → Option Int
  | [], _, b => some b
  | _ :: _, [], _ => none
  | n :: row, t :: tr, b => if 0 ≤ n ∧ n ≤ CMAX ∧ 0 ≤ t ∧ t ≤ CMAX then bndJ row tr (min b (n + t)) else none
def bndX (tab : List (List Int)) (row : List Int) : List Int → Int → Option Int
  | [], b => some b
  | x :: set, b => if x < 0 then none else match tab[x.toNat]? with
    | none => none
    | some tr => match bndJ row tr b with
      | none => none
      | some b' => bndX tab row set b'
def boundM (rest : List (List (List Int))) (set row : List Int) (r : Int) : Option Int :=
  if r < 0 then none else match rest[r.toNat]? with
  | none => none
  | some tab => bndX tab row set far
def c114 : Cfg := ⟨[0, 1, 2, 3, 8, 9, 11, 12, 13, 14, 15, 16, 17, 20, 21, 22, 23], [], [], [], [], []⟩
def c115 : Cfg := ⟨[0, 1, 2, 6, 7, 8, 9, 18, 19, 20, 21], [14], [], [], [(5, [0, 1, 2, 3, 4, 5, 6, 7, 8, 9, 10, 11, 12, 13, 14, 15, 16, 17, 18, 19, 20, 21, 22, 23], [])], []⟩
theorem bound {n : Int} {cells : List Cel} {par : List Int} {pq rq : Nat} {b km : Nat} {ps : List Pos} {rest : List (List (List Int))} {set row : List Int} {r0 v : Int} (hs : set.length ≤ 1048576) (hr : row.length ≤ 1048576) (hb : boundM rest set row r0 = some v) :
    QCall Try.prog 114 [.optr b 0, .sl 1 none (ints set), .sl 1 none (ints row), .int .i64 r0] (sh n cells par (.sl 2 (some pq) (ps.map encPos)) ps (.sl 1 (some rq) (rest.map encTab)) b km) (.int .i64 v) := by
  unfold boundM at hb
  split at hb
  · cases hb
  rename_i hr0
  split at hb
  · cases hb
  rename_i tab htab
  have hcm : CMAX = 1099511627776 := rfl
  refine fcalls (F := Try.f114) c114 rfl rfl rfl mixed rfl fun X => ?_
  conv => whnf
  refine sloop rfl mixed [0, 2, 3, 9, 14, 15, 16] [] (fun m r h => ∃ (i : Nat) (best : Int), r = [(0, [], .optr b 0), (2, [], .sl 1 none (ints row)), (3, [], .int .i64 r0), (9, [], .int .i64 best), (14, [], .sl 1 none (ints set)), (15, [], .int .i64 (ints set).length), (16, [], .int .i64 i)] ∧ h = sh n cells par (.sl 2 (some pq) (ps.map encPos)) ps (.sl 1 (some rq) (rest.map encTab)) b km ∧ m = set.length - i ∧ i ≤ set.length ∧ bndX tab row (set.drop i) best = some v) ?_ ?_
  · conv => whnf
    exact ⟨_, 0, far, rfl, rfl, rfl, by omega, hb⟩
  · rintro m rr h ⟨i, best, rfl, rfl, rfl, hi, he⟩
    conv => whnf
    refine ⟨fun hf => ?_, fun hf => ?_⟩ <;> simp at hf
    · obtain ⟨x, hx⟩ := get_lt hf
      rw [drop_cons hx, bndX] at he
      split at he
      · cases he
      rename_i hx0
      split at he
      · cases he
      rename_i tr htr
      split at he
      · cases he
      rename_i b' hj
      conv => whnf
      repeat (refine ix (by assumption) ?_; conv => whnf)
      refine sloop rfl mixed [0, 2, 3, 9, 11, 14, 15, 16, 20, 21, 22] [] (fun m r h => ∃ (j : Nat) (best : Int), r = [(0, [], .optr b 0), (2, [], .sl 1 none (ints row)), (3, [], .int .i64 r0), (9, [], .int .i64 best), (11, [], .int .i64 x), (14, [], .sl 1 none (ints set)), (15, [], .int .i64 (ints set).length), (16, [], .int .i64 i), (20, [], .sl 1 none (ints row)), (21, [], .int .i64 (ints row).length), (22, [], .int .i64 j)] ∧ h = sh n cells par (.sl 2 (some pq) (ps.map encPos)) ps (.sl 1 (some rq) (rest.map encTab)) b km ∧ m = row.length - j ∧ j ≤ row.length ∧ bndJ (row.drop j) (tr.drop j) best = some b') ?_ ?_
      · conv => whnf
        exact ⟨_, 0, best, rfl, rfl, rfl, by omega, hj⟩
      · rintro m rr h ⟨j, best, rfl, rfl, rfl, hjl, hj⟩
        conv => whnf
        refine ⟨fun hf => ?_, fun hf => ?_⟩ <;> simp at hf
        · obtain ⟨y, hy⟩ := get_lt hf
          rw [drop_cons hy] at hj
          cases hd : tr.drop j with
          | nil => rw [hd] at hj; cases hj
          | cons t td =>
          have ht : tr[j]? = some t := by have := congrArg (fun l => l[0]?) hd; simpa using this
          have htd : tr.drop (j + 1) = td := by have := congrArg List.tail hd; simpa using this
          rw [hd, bndJ] at hj
          split at hj
          · rename_i hok
            conv => whnf
            repeat ((first | refine ⟨gP_of ⟨by omega, by omega⟩, ?_⟩ | refine ix (by assumption) ?_ | (refine ixn r0.toNat (by omega) htab ?_) | (refine ixn x.toNat (by omega) htr ?_)
                           | refine ⟨_, _, .head _, rfl, ?_⟩); conv => whnf)
            exact ⟨_, by omega, j + 1, _, rfl, rfl, rfl, by omega, by rw [htd]; exact hj⟩
          · cases hj
        · rw [drop_nil (by omega), bndJ] at hj
          cases hj
          conv => whnf
          repeat (refine ⟨gP_of ⟨by omega, by omega⟩, ?_⟩; conv => whnf)
          exact ⟨_, by omega, i + 1, _, rfl, rfl, rfl, by omega, he⟩
    · rw [drop_nil (by omega), bndX] at he
      cases he
      conv => whnf
      exact ⟨rfl, rfl⟩
end Go.Abs.Wall
set_option maxRecDepth 100000
set_option linter.unusedVariables false
namespace Go.Abs.Wall
open Go Go.Abs Go.Proofs
/-! ### extend -/
def extGo (sign : Int) : List Int → List Int → Int → Option (List Int)
  | [], _, _ => some []
  | p :: ps, a :: b :: r, o => if 0 ≤ a ∧ a ≤ CMAX ∧ 0 ≤ b ∧ b ≤ CMAX ∧ 0 ≤ o ∧ o ≤ CMAX + 1 then
      (extGo sign ps (b :: r) (min (min (a + differ sign p) (b + 1)) (o + 1))).map (min (min (a + differ sign p) (b + 1)) (o + 1) :: ·) else none
  | _ :: _, _, _ => none
def extM (par row : List Int) (sign : Int) : Option (List Int) :=
  match row with
  | [] => none
  | a :: _ => if 0 ≤ a ∧ a ≤ CMAX then (extGo sign par row (a + 1)).map ((a + 1) :: ·) else none
theorem extend {n : Int} {cells : List Cel} {par : List Int} {pq : Nat} {rv : AV} {b km : Nat} {ps : List Pos} {row R : List Int} {sign : Int} (hpl : par.length ≤ 1048576) (hb : extM par row sign = some R) :
    QCall Try.prog 115 [.optr b 0, .sl 1 none (ints row), .int .i64 sign] (sh n cells par (.sl 2 (some pq) (ps.map encPos)) ps rv b km) (.sl 1 none (ints R)) := by
  suffices h : ACalls Try.prog 115 [.optr b 0, .sl 1 none (ints row), .int .i64 sign] (sh n cells par (.sl 2 (some pq) (ps.map encPos)) ps rv b km)
      (fun v h' => ∃ q, v = .sl 1 (some q) (ints R) ∧ h' = [(q, .tok)] ++ sh n cells par (.sl 2 (some pq) (ps.map encPos)) ps rv b km) by
    refine ACalls.post h ?_
    rintro v h' ⟨q, rfl, rfl⟩
    refine ⟨_, _, ⟨rfl, rfl⟩, VLe.sl, fun k o hm => List.mem_append_right _ hm, fun hnd => ?_⟩
    simp only [keys, List.map_append, List.nodup_append] at hnd ⊢
    exact hnd.2.1
  unfold extM at hb
  split at hb
  · cases hb
  rename_i a0 row0
  split at hb
  · rename_i ha0
    have hcm : CMAX = 1099511627776 := rfl
    cases hg : extGo sign par (a0 :: row0) (a0 + 1) with
    | none => rw [hg] at hb; cases hb
    | some R0 =>
    rw [hg] at hb
    cases hb
    refine fcalls (F := Try.f115) c115 rfl rfl rfl mixed rfl fun X => ?_
    conv => whnf
    repeat ((first | refine ⟨gP_of ⟨by omega, by omega⟩, ?_⟩ | (refine ix0 rfl ?_) | refine ⟨_, _, .tail _ (.head _), rfl, ?_⟩ | intro (nb : Nat)); conv => whnf)
    refine sloop rfl mixed [1, 2, 7, 18, 19, 20] [] (fun m r h => ∃ (j : Nat) (q : Nat) (acc : List Int) (o : Int), r = [(1, [], .sl 1 none (ints (a0 :: row0))), (2, [], .int .i64 sign), (7, [], .sl 1 (some q) (ints (acc ++ [o]))), (18, [], .sl 1 none (ints par)), (19, [], .int .i64 (ints par).length), (20, [], .int .i64 j)] ∧ h = [(q, .tok)] ++ sh n cells par (.sl 2 (some pq) (ps.map encPos)) ps rv b km ∧ m = par.length - j ∧ j ≤ par.length ∧ acc.length = j ∧ (extGo sign (par.drop j) ((a0 :: row0).drop j) o).map ((acc ++ [o]) ++ ·) = some ((a0 + 1) :: R0)) ?_ ?_
    · conv => whnf
      exact ⟨_, 0, nb, [], a0 + 1, rfl, rfl, rfl, by omega, rfl, by simp [hg]⟩
    · rintro m rr h ⟨j, q, acc, o, rfl, rfl, rfl, hj, hacc, he⟩
      conv => whnf
      refine ⟨fun hf => ?_, fun hf => ?_⟩ <;> simp at hf
      · obtain ⟨p, hp⟩ := get_lt hf
        rw [drop_cons hp] at he
        cases hd : (a0 :: row0).drop j with
        | nil => rw [hd] at he; cases he
        | cons a rd =>
        cases rd with
        | nil => rw [hd] at he; cases he
        | cons b2 rd =>
        have ht : (a0 :: row0)[j]? = some a := by have := congrArg (fun l => l[0]?) hd; simpa using this
        have ht2 : (a0 :: row0)[j + 1]? = some b2 := by have := congrArg (fun l => l[1]?) hd; simpa using this
        have htd : (a0 :: row0).drop (j + 1) = b2 :: rd := by have := congrArg List.tail hd; simpa using this
        have ho : (acc ++ [o])[j]? = some o := by rw [List.getElem?_append_right (by omega)]; simp [hacc]
        rw [hd, extGo] at he
        split at he
        · rename_i hok
          have hdf : 0 ≤ differ sign p ∧ differ sign p ≤ 1 := by unfold differ; split <;> omega
          conv => whnf
          repeat ((first | refine ⟨gP_of ⟨by omega, by omega⟩, ?_⟩ | refine ix (by assumption) ?_ | refine gcall (differW sign p) ?_ | (refine ⟨(by rw [List.length_append, ints_length]; simp only [List.length_append]; show _ + _ + 1 ≤ 4294967296; simp only [List.length_singleton]; omega), fun q' => ⟨_, .here _, ?_⟩⟩)
                         | refine And.intro (by show drawOK (opsAt Try.f115 _) _ = true; decide +kernel) ?_); conv => whnf)
          refine ⟨_, by omega, j + 1, q', acc ++ [o], min (min (a + differ sign p) (b2 + 1)) (o + 1), by simp [ints], rfl, rfl, by omega, by simp [hacc], ?_⟩
          rw [htd, ← he]
          cases extGo sign (par.drop (j + 1)) (b2 :: rd) (min (min (a + differ sign p) (b2 + 1)) (o + 1)) <;> simp
        · cases he
      · rw [drop_nil (by omega), extGo] at he
        simp at he
        conv => whnf
        exact ⟨q, by rw [he], rfl⟩
  · cases hb
end Go.Abs.Wall
set_option maxRecDepth 100000
set_option linter.unusedVariables false
namespace Go.Abs.Wall
open Go Go.Abs Go.Proofs
/-! ### least -/
def rowOK (m : Nat) (l : List Int) : Prop := l.length = m + 1 ∧ ∀ v ∈ l, 0 ≤ v ∧ v ≤ far
theorem rowOK.get {m : Nat} {l : List Int} (h : rowOK m l) {j : Nat} (hj : j ≤ m) : l[j]? = some (l.getD j 0) ∧ 0 ≤ l.getD j 0 ∧ l.getD j 0 ≤ far := by
  have hlt : j < l.length := by have := h.1; omega
  have := h.2 l[j] (List.getElem_mem hlt)
  simp only [List.getD, List.getElem?_eq_getElem hlt, Option.getD_some]
  exact ⟨trivial, this⟩
def leastV (cells : List Cel) (par : List Int) (prev : List (List Int)) (later : Nat → List Int) (cur : Nat → Int) (y : Nat) (p : Pos) (x j : Nat) (r : Int) : Int :=
  if p.1 = cells.length then (if 0 < r then far else par.length - j) else
  let c := cells.getD p.1.toNat ⟨0, 0, []⟩
  let b0 := if c.mn ≤ p.2 then (later y).getD j 0 else far
  let b1 := if (j : Int) < par.length then min b0 (1 + cur (j + 1)) else b0
  if p.2 < c.mx ∧ 0 < r then
    let nx := prev.getD (x + 1) []
    let b2 := min b1 (1 + nx.getD j 0)
    if (j : Int) < par.length then min b2 ((if allows c (par.getD j 0) = true then 0 else 1) + nx.getD (j + 1) 0) else b2
  else b1
theorem lkV {κ : Type} [DecidableEq κ] {P : Program} {t : TypeId} {ek : κ → AV} {es : List (κ × Int)} {k : κ} {b : Nat} {h : Heap} {g : G} {v : Int} {K : AV → Prop} (hm : (b, Ob.map (encA ek (AV.int .i64) es)) ∈ h) (heq : ∀ a b, eqV P t (ek a) (ek b) = some (decide (a = b))) (hp : plainT P t = true)
    (hv : lookA k es = some v) (hk : K (.int .i64 v)) :
    ∃ es v f, (b, Ob.map es) ∈ h ∧ gP g (keyFits P t (ek k) ∧ mlook P t (ek k) es (.int .i64 0) = some (v, f)) ∧ K (okTup false v f) := by
  refine lkI hm heq hp ?_
  rw [hv]
  exact hk
def c113 : Cfg := ⟨[0, 1, 2, 3, 4, 10, 11, 12, 13, 14, 15, 30, 32, 52, 74, 94, 120, 129], [], [11, 13], [], [(2, [0, 1, 2, 3, 4, 5, 6, 7], []), (7, [0, 1, 2, 3, 4, 5, 6, 7, 8, 9], [13]), (9, [0, 1, 2, 3, 4, 5, 6, 7, 8, 9, 10, 11, 12, 13, 14, 15], []), (17, [0, 1, 2, 3, 4, 5, 6, 7, 8], [])], []⟩
theorem least {n : Int} {cells : List Cel} {par : List Int} {pq rq : Nat} {b km tb rw_ : Nat} {ps : List Pos} {rest : List (List (List Int))} {prev : List (List Int)} {later : Nat → List Int} {cur : Nat → Int} {tf rf : Nat → AV} {x j y : Nat} {r0 : Int} {p : Pos}
    {rv : AV} (hc : CelsOK cells) (hpl : par.length ≤ 60) (hps : ps.length ≤ 1048576) (hp : ps[x]? = some p) (hp1 : 0 ≤ p.1) (hp2 : 0 ≤ p.2) (hp3 : p.1 ≤ cells.length) (hj : j ≤ par.length) (hr0 : 0 ≤ r0) (hr1 : r0 ≤ 1048576)
    (hy : p.1 < cells.length → lookA (p.1 + 1, 0) (idxOf ps) = some (y : Int) ∧ x < y ∧ y < ps.length)
    (hnext : p.1 < cells.length → p.2 < (cells.getD p.1.toNat ⟨0, 0, []⟩).mx → x + 1 < ps.length)
    (htx : tf x = .osl rw_ 0 (par.length + 1) 1) (hty : ∀ z, x < z → z < ps.length → tf z = .sl 1 none (ints (later z)) ∧ rowOK par.length (later z))
    (hrf : ∀ k, j < k → k ≤ par.length → rf k = .int .i64 (cur k) ∧ 0 ≤ cur k ∧ cur k ≤ far)
    (hprev : 0 < r0 → rv = .sl 1 (some rq) (rest.map encTab) ∧ rest[(r0 - 1).toNat]? = some prev ∧ prev.length = ps.length ∧ ∀ z ∈ prev, rowOK par.length z) :
    QCall Try.prog 113 [.optr b 0, .osl tb 0 ps.length 1, .int .i64 x, .int .i64 j, .int .i64 r0] ([(rw_, .vec (rowsF (par.length + 1) rf)), (tb, .vec (rowsF ps.length tf))] ++ sh n cells par (.sl 2 (some pq) (ps.map encPos)) ps rv b km)
      (.int .i64 (leastV cells par prev later cur y p x j r0)) := by
  have hfar : far = 1048576 := rfl
  have hcl := hc.len
  have hil := ints_length par
  refine fcalls (F := Try.f113) c113 rfl rfl rfl mixed rfl fun X => ?_
  conv => whnf
  repeat ((first | refine ix (by assumption) ?_ | (refine ⟨_, _, .tail _ (.tail _ (.head _)), rfl, ?_⟩) | refine ⟨_, _, Rem.here _, ⟨Nat.le_of_ble_eq_true rfl, rfl⟩, ?_⟩
                 | refine And.intro (by show drawOK (opsAt Try.f113 _) _ = true; decide +kernel) ?_ | intro (nb : Nat)); conv => whnf)
  by_cases h0 : p.1 = cells.length
  · unfold leastV
    rw [if_pos h0]
    refine cT (by rw [List.length_map]; simpa using h0) ?_
    conv => whnf
    refine ⟨fun h1 => ?_, fun h1 => ?_⟩ <;> simp at h1
    · rw [if_pos h1]
      conv => whnf
      exact ⟨rfl, rfl⟩
    · rw [if_neg (by omega)]
      conv => whnf
      repeat ((first | refine ⟨gP_of ⟨by omega, by omega⟩, ?_⟩ | (refine ⟨_, _, .tail _ (.tail _ (.head _)), rfl, ?_⟩)); conv => whnf)
      rw [hil]
      exact ⟨rfl, rfl⟩
  · have hlt : p.1 < cells.length := by omega
    obtain ⟨hlk, hxy, hyN⟩ := hy hlt
    obtain ⟨hty1, hty2⟩ := hty y hxy hyN
    have hyj := hty2.get hj
    have hmx := getD_mx hc p.1.toNat
    unfold leastV
    rw [if_neg h0]
    refine cF (by rw [List.length_map]; simpa using h0) ?_
    obtain ⟨c, hce⟩ : ∃ c, c = cells.getD p.1.toNat ⟨0, 0, []⟩ := ⟨_, rfl⟩
    have hcx : cells[p.1.toNat]? = some c := by rw [hce]; simp [List.getD, List.getElem?_eq_getElem (show p.1.toNat < cells.length by omega)]
    have hcc := hc.each c (List.mem_of_getElem? hcx)
    rw [← hce] at hmx hnext ⊢
    simp only
    conv => whnf
    repeat ((first | (refine ⟨_, _, .tail _ (.tail _ (.head _)), rfl, ?_⟩) | (refine ixn p.1.toNat (by omega) hcx ?_) | refine ⟨_, _, Rem.here _, ?_⟩ | refine ⟨_, _, .here _, leOK, ?_⟩
                   | refine And.intro (by show drawOK (opsAt Try.f113 _) _ = true; decide +kernel) ?_ | intro (nb : Nat)); conv => whnf)
    by_cases hb0 : c.mn ≤ p.2
    · refine cT (by simpa using hb0) ?_
      rw [if_pos hb0]
      conv => whnf
      repeat ((first | refine ⟨gP_of ⟨by omega, by omega⟩, ?_⟩ | (refine ⟨_, _, .tail _ (.tail _ (.head _)), rfl, ?_⟩) | (refine lkV (ek := ekP) (k := (p.1 + 1, 0)) (es := idxOf ps) (.tail _ (.tail _ (.tail _ (.head _)))) eqPos plainPos hlk ?_)
                     | (refine ixo ?_ ?_; (focus omega)) | (refine ldoF (.sl 1 none (ints (later y))) (.tail _ (.head _)) rfl (by omega) (by simpa using hty1) ?_) | (refine ixn j rfl hyj.1 ?_)
                     | refine And.intro (by show drawOK (opsAt Try.f113 _) _ = true; decide +kernel) ?_); conv => whnf)
      conv => whnf
      skip
      by_cases hjl0 : (j : Int) < par.length
      · refine cT (by rw [hil]; simpa using hjl0) ?_
        simp only [if_pos hjl0]
        obtain ⟨hc1, hc2, hc3⟩ := hrf (j + 1) (by omega) (by omega)
        conv => whnf
        repeat ((first | refine ⟨gP_of ⟨by omega, by omega⟩, ?_⟩ | (refine ixo ?_ ?_; (focus omega)) | (refine ldoF (.osl rw_ 0 (par.length + 1) 1) (.tail _ (.head _)) rfl (by omega) (by simpa using htx) ?_)
                       | (refine ixog ?_ ?_; (focus (conv => whnf; skip)); (focus (show 0 ≤ _ ∧ _ < _; omega))) | (refine ldoF (.int .i64 (cur (j + 1))) (.head _) rfl (by omega) (by rw [show 0 + ((j : Int) + 1).toNat * 1 = j + 1 from by omega]; exact hc1) ?_)); conv => whnf)
        conv => whnf
        by_cases hc2 : p.2 < c.mx ∧ 0 < r0
        · refine cT (by simp only [Bool.and_eq_true, decide_eq_true_eq]; exact hc2) ?_
          rw [if_pos hc2]
          obtain ⟨rfl, hpv, hpl2, hpo⟩ := hprev hc2.2
          have hx1 := hnext hlt hc2.1
          obtain ⟨nx, hnx⟩ := get_lt (show x + 1 < prev.length by omega)
          have hnxo := hpo nx (List.mem_of_getElem? hnx)
          have hnxj := hnxo.get hj
          rw [show prev.getD (x + 1) [] = nx from by simp [List.getD, hnx]]
          conv => whnf
          repeat ((first | refine ⟨gP_of ⟨by omega, by omega⟩, ?_⟩ | refine ix (by assumption) ?_ | (refine ⟨_, _, .tail _ (.tail _ (.head _)), rfl, ?_⟩) | (refine ixn (r0 - 1).toNat (by omega) hpv ?_)
                         | (refine ixn j rfl hnxj.1 ?_)); conv => whnf)
          refine cT (by rw [hil]; simpa using hjl0) ?_
          obtain ⟨a, ha⟩ := get_lt (show j < par.length by omega)
          have hnxj1 := hnxo.get (show j + 1 ≤ par.length by omega)
          rw [show par.getD j 0 = a from by simp [List.getD, ha]]
          conv => whnf
          repeat ((first | refine ix (by assumption) ?_ | (refine ⟨_, _, .tail _ (.tail _ (.head _)), rfl, ?_⟩) | refine gcall (allowsW c a (by unfold LMAX; omega)) ?_ | refine And.intro (by show drawOK (opsAt Try.f113 _) _ = true; decide +kernel) ?_); conv => whnf)
          refine ⟨fun hal => ?_, fun hal => ?_⟩
          · rw [if_pos hal]
            conv => whnf
            repeat ((first | refine ⟨gP_of ⟨by omega, by omega⟩, ?_⟩ | (refine ixn (j + 1) (by omega) hnxj1.1 ?_)); conv => whnf)
            exact ⟨rfl, rfl⟩
          · rw [if_neg (by rw [hal]; decide)]
            conv => whnf
            repeat ((first | refine ⟨gP_of ⟨by omega, by omega⟩, ?_⟩ | (refine ixn (j + 1) (by omega) hnxj1.1 ?_)); conv => whnf)
            exact ⟨rfl, rfl⟩
        · refine cF (by simp only [Bool.and_eq_false_iff, decide_eq_false_iff_not]; omega) ?_
          rw [if_neg hc2]
          conv => whnf
          skip
          exact ⟨rfl, rfl⟩
      · refine cF (by rw [hil]; simpa using hjl0) ?_
        simp only [if_neg hjl0]
        conv => whnf
        by_cases hc2 : p.2 < c.mx ∧ 0 < r0
        · refine cT (by simp only [Bool.and_eq_true, decide_eq_true_eq]; exact hc2) ?_
          rw [if_pos hc2]
          obtain ⟨rfl, hpv, hpl2, hpo⟩ := hprev hc2.2
          have hx1 := hnext hlt hc2.1
          obtain ⟨nx, hnx⟩ := get_lt (show x + 1 < prev.length by omega)
          have hnxo := hpo nx (List.mem_of_getElem? hnx)
          have hnxj := hnxo.get hj
          rw [show prev.getD (x + 1) [] = nx from by simp [List.getD, hnx]]
          conv => whnf
          repeat ((first | refine ⟨gP_of ⟨by omega, by omega⟩, ?_⟩ | refine ix (by assumption) ?_ | (refine ⟨_, _, .tail _ (.tail _ (.head _)), rfl, ?_⟩) | (refine ixn (r0 - 1).toNat (by omega) hpv ?_)
                         | (refine ixn j rfl hnxj.1 ?_)); conv => whnf)
          refine cF (by rw [hil]; simpa using hjl0) ?_
          conv => whnf
          skip
          exact ⟨rfl, rfl⟩
        · refine cF (by simp only [Bool.and_eq_false_iff, decide_eq_false_iff_not]; omega) ?_
          rw [if_neg hc2]
          conv => whnf
          skip
          exact ⟨rfl, rfl⟩
    · refine cF (by simpa using hb0) ?_
      rw [if_neg hb0]
      conv => whnf
      repeat ((refine ⟨_, _, .tail _ (.tail _ (.head _)), rfl, ?_⟩); conv => whnf)
      by_cases hjl0 : (j : Int) < par.length
      · refine cT (by rw [hil]; simpa using hjl0) ?_
        simp only [if_pos hjl0]
        obtain ⟨hc1, hc2, hc3⟩ := hrf (j + 1) (by omega) (by omega)
        conv => whnf
        repeat ((first | refine ⟨gP_of ⟨by omega, by omega⟩, ?_⟩ | (refine ixo ?_ ?_; (focus omega)) | (refine ldoF (.osl rw_ 0 (par.length + 1) 1) (.tail _ (.head _)) rfl (by omega) (by simpa using htx) ?_)
                       | (refine ixog ?_ ?_; (focus (conv => whnf; skip)); (focus (show 0 ≤ _ ∧ _ < _; omega))) | (refine ldoF (.int .i64 (cur (j + 1))) (.head _) rfl (by omega) (by rw [show 0 + ((j : Int) + 1).toNat * 1 = j + 1 from by omega]; exact hc1) ?_)); conv => whnf)
        conv => whnf
        by_cases hc2 : p.2 < c.mx ∧ 0 < r0
        · refine cT (by simp only [Bool.and_eq_true, decide_eq_true_eq]; exact hc2) ?_
          rw [if_pos hc2]
          obtain ⟨rfl, hpv, hpl2, hpo⟩ := hprev hc2.2
          have hx1 := hnext hlt hc2.1
          obtain ⟨nx, hnx⟩ := get_lt (show x + 1 < prev.length by omega)
          have hnxo := hpo nx (List.mem_of_getElem? hnx)
          have hnxj := hnxo.get hj
          rw [show prev.getD (x + 1) [] = nx from by simp [List.getD, hnx]]
          conv => whnf
          repeat ((first | refine ⟨gP_of ⟨by omega, by omega⟩, ?_⟩ | refine ix (by assumption) ?_ | (refine ⟨_, _, .tail _ (.tail _ (.head _)), rfl, ?_⟩) | (refine ixn (r0 - 1).toNat (by omega) hpv ?_)
                         | (refine ixn j rfl hnxj.1 ?_)); conv => whnf)
          refine cT (by rw [hil]; simpa using hjl0) ?_
          obtain ⟨a, ha⟩ := get_lt (show j < par.length by omega)
          have hnxj1 := hnxo.get (show j + 1 ≤ par.length by omega)
          rw [show par.getD j 0 = a from by simp [List.getD, ha]]
          conv => whnf
          repeat ((first | refine ix (by assumption) ?_ | (refine ⟨_, _, .tail _ (.tail _ (.head _)), rfl, ?_⟩) | refine gcall (allowsW c a (by unfold LMAX; omega)) ?_ | refine And.intro (by show drawOK (opsAt Try.f113 _) _ = true; decide +kernel) ?_); conv => whnf)
          refine ⟨fun hal => ?_, fun hal => ?_⟩
          · rw [if_pos hal]
            conv => whnf
            repeat ((first | refine ⟨gP_of ⟨by omega, by omega⟩, ?_⟩ | (refine ixn (j + 1) (by omega) hnxj1.1 ?_)); conv => whnf)
            exact ⟨rfl, rfl⟩
          · rw [if_neg (by rw [hal]; decide)]
            conv => whnf
            repeat ((first | refine ⟨gP_of ⟨by omega, by omega⟩, ?_⟩ | (refine ixn (j + 1) (by omega) hnxj1.1 ?_)); conv => whnf)
            exact ⟨rfl, rfl⟩
        · refine cF (by simp only [Bool.and_eq_false_iff, decide_eq_false_iff_not]; omega) ?_
          rw [if_neg hc2]
          conv => whnf
          skip
          exact ⟨rfl, rfl⟩
      · refine cF (by rw [hil]; simpa using hjl0) ?_
        simp only [if_neg hjl0]
        conv => whnf
        by_cases hc2 : p.2 < c.mx ∧ 0 < r0
        · refine cT (by simp only [Bool.and_eq_true, decide_eq_true_eq]; exact hc2) ?_
          rw [if_pos hc2]
          obtain ⟨rfl, hpv, hpl2, hpo⟩ := hprev hc2.2
          have hx1 := hnext hlt hc2.1
          obtain ⟨nx, hnx⟩ := get_lt (show x + 1 < prev.length by omega)
          have hnxo := hpo nx (List.mem_of_getElem? hnx)
          have hnxj := hnxo.get hj
          rw [show prev.getD (x + 1) [] = nx from by simp [List.getD, hnx]]
          conv => whnf
          repeat ((first | refine ⟨gP_of ⟨by omega, by omega⟩, ?_⟩ | refine ix (by assumption) ?_ | (refine ⟨_, _, .tail _ (.tail _ (.head _)), rfl, ?_⟩) | (refine ixn (r0 - 1).toNat (by omega) hpv ?_)
                         | (refine ixn j rfl hnxj.1 ?_)); conv => whnf)
          refine cF (by rw [hil]; simpa using hjl0) ?_
          conv => whnf
          skip
          exact ⟨rfl, rfl⟩
        · refine cF (by simp only [Bool.and_eq_false_iff, decide_eq_false_iff_not]; omega) ?_
          rw [if_neg hc2]
          conv => whnf
          skip
          exact ⟨rfl, rfl⟩
end Go.Abs.Wall
set_option maxRecDepth 100000
set_option linter.unusedVariables false
namespace Go.Abs.Wall
open Go Go.Abs Go.Proofs
/-! ### prepare -/
structure PosOK (cells : List Cel) (ps : List Pos) : Prop where
  len : 0 < ps.length ∧ ps.length ≤ 1048576
  each : ∀ (x : Nat) (p : Pos), ps[x]? = some p → 0 ≤ p.1 ∧ 0 ≤ p.2 ∧ p.1 ≤ cells.length ∧ (p.1 < cells.length → ∃ y : Nat, lookA (p.1 + 1, 0) (idxOf ps) = some (y : Int) ∧ x < y ∧ y < ps.length) ∧ (p.1 < cells.length → p.2 < (cells.getD p.1.toNat ⟨0, 0, []⟩).mx → x + 1 < ps.length)
def rowL (lv : (Nat → Int) → Nat → Int) (m : Nat) : Nat → List Int
  | 0 => []
  | d + 1 => lv (fun k => (rowL lv m d).getD (k + d - (m + 1)) 0) (m - d) :: rowL lv m d
theorem rowL_length (lv : (Nat → Int) → Nat → Int) (m : Nat) : ∀ d, (rowL lv m d).length = d
  | 0 => rfl
  | d + 1 => by rw [rowL, List.length_cons, rowL_length lv m d]
theorem rowL_get (lv : (Nat → Int) → Nat → Int) (m d k : Nat) (hd : d ≤ m) (hk : m < k + (d + 1)) (hk2 : k ≤ m) :
    (rowL lv m (d + 1)).getD (k + (d + 1) - (m + 1)) 0 = if k = m - d then lv (fun k => (rowL lv m d).getD (k + d - (m + 1)) 0) (m - d) else (rowL lv m d).getD (k + d - (m + 1)) 0 := by
  rw [rowL]
  by_cases h : k = m - d
  · rw [if_pos h, show k + (d + 1) - (m + 1) = 0 from by omega]; rfl
  · rw [if_neg h, show k + (d + 1) - (m + 1) = (k + d - (m + 1)) + 1 from by omega]; rfl
def lvX (cells : List Cel) (ps : List Pos) (par : List Int) (prev : List (List Int)) (r : Int) (later : Nat → List Int) (x : Nat) : (Nat → Int) → Nat → Int :=
  fun cur j => leastV cells par prev later cur ((lookA ((ps.getD x (0, 0)).1 + 1, 0) (idxOf ps)).getD 0).toNat (ps.getD x (0, 0)) x j r
def tabL (cells : List Cel) (ps : List Pos) (par : List Int) (prev : List (List Int)) (r : Int) : Nat → List (List Int)
  | 0 => []
  | e + 1 => rowL (lvX cells ps par prev r (fun z => (tabL cells ps par prev r e).getD (z + e - ps.length) []) (ps.length - 1 - e)) par.length (par.length + 1) :: tabL cells ps par prev r e
theorem tabL_length (cells : List Cel) (ps : List Pos) (par : List Int) (prev : List (List Int)) (r : Int) : ∀ e, (tabL cells ps par prev r e).length = e
  | 0 => rfl
  | e + 1 => by rw [tabL, List.length_cons, tabL_length cells ps par prev r e]
def restL (cells : List Cel) (ps : List Pos) (par : List Int) : Nat → List (List (List Int))
  | 0 => []
  | r + 1 => restL cells ps par r ++ [tabL cells ps par ((restL cells ps par r).getD (r - 1) []) r ps.length]
theorem restL_length (cells : List Cel) (ps : List Pos) (par : List Int) : ∀ r, (restL cells ps par r).length = r
  | 0 => rfl
  | r + 1 => by rw [restL, List.length_append, restL_length cells ps par r]; rfl
theorem leastV_bd {cells : List Cel} {par : List Int} {prev : List (List Int)} {later : Nat → List Int} {cur : Nat → Int} {x j y : Nat} {r0 : Int} {p : Pos} (hpl : par.length ≤ 60) (hj : j ≤ par.length)
    (hy : p.1 ≠ cells.length → rowOK par.length (later y))
    (hrf : ∀ k, j < k → k ≤ par.length → 0 ≤ cur k ∧ cur k ≤ far)
    (hprev : p.1 ≠ cells.length → p.2 < (cells.getD p.1.toNat ⟨0, 0, []⟩).mx → 0 < r0 → rowOK par.length (prev.getD (x + 1) [])) :
    0 ≤ leastV cells par prev later cur y p x j r0 ∧ leastV cells par prev later cur y p x j r0 ≤ far := by
  have hfar : far = 1048576 := rfl
  unfold leastV
  by_cases h0 : p.1 = cells.length
  · rw [if_pos h0]
    split <;> omega
  · rw [if_neg h0]
    have hyj := (hy h0).get hj
    simp only
    have hb0 : ∀ b0, b0 = (if (cells.getD p.1.toNat ⟨0, 0, []⟩).mn ≤ p.2 then (later y).getD j 0 else far) → 0 ≤ b0 ∧ b0 ≤ far := by
      rintro b0 rfl; split <;> omega
    generalize (if (cells.getD p.1.toNat ⟨0, 0, []⟩).mn ≤ p.2 then (later y).getD j 0 else far) = b0 at hb0 ⊢
    have hb0 := hb0 b0 rfl
    have hb1 : ∀ b1, b1 = (if (j : Int) < par.length then min b0 (1 + cur (j + 1)) else b0) → 0 ≤ b1 ∧ b1 ≤ far := by
      rintro b1 rfl
      split
      · have := hrf (j + 1) (by omega) (by omega); omega
      · exact hb0
    generalize (if (j : Int) < par.length then min b0 (1 + cur (j + 1)) else b0) = b1 at hb1 ⊢
    have hb1 := hb1 b1 rfl
    split
    · rename_i hc
      have hn := hprev h0 hc.1 hc.2
      have hnj := hn.get hj
      split
      · have hnj1 := hn.get (show j + 1 ≤ par.length by omega)
        have : ∀ d : Int, d = (if allows (cells.getD p.1.toNat ⟨0, 0, []⟩) (par.getD j 0) = true then 0 else 1) → 0 ≤ d := by rintro d rfl; split <;> omega
        have := this _ rfl
        omega
      · omega
    · exact hb1
theorem rowL_OK {lv : (Nat → Int) → Nat → Int} {m : Nat} (h : ∀ (cur : Nat → Int) j, j ≤ m → (∀ k, j < k → k ≤ m → 0 ≤ cur k ∧ cur k ≤ far) → 0 ≤ lv cur j ∧ lv cur j ≤ far) : ∀ d, d ≤ m + 1 → ∀ v ∈ rowL lv m d, 0 ≤ v ∧ v ≤ far
  | 0, _, v, hv => by cases hv
  | d + 1, hd, v, hv => by
    have ih := rowL_OK h d (by omega)
    rw [rowL] at hv
    rcases List.mem_cons.1 hv with rfl | hv
    · refine h _ _ (by omega) fun k hk hk2 => ?_
      have hlt : k + d - (m + 1) < (rowL lv m d).length := by rw [rowL_length]; omega
      simp only [List.getD, List.getElem?_eq_getElem hlt, Option.getD_some]
      exact ih _ (List.getElem_mem hlt)
    · exact ih v hv
theorem tabL_OK {cells : List Cel} {ps : List Pos} {par : List Int} {prev : List (List Int)} {r : Int} (hp : PosOK cells ps) (hpl : par.length ≤ 60) (hprev : 0 < r → prev.length = ps.length ∧ ∀ z ∈ prev, rowOK par.length z) :
    ∀ e, e ≤ ps.length → ∀ l ∈ tabL cells ps par prev r e, rowOK par.length l
  | 0, _, l, h => by cases h
  | e + 1, he, l, hl => by
    have ih := tabL_OK hp hpl hprev e (by omega)
    rw [tabL] at hl
    rcases List.mem_cons.1 hl with rfl | hl
    · refine ⟨rowL_length _ _ _, rowL_OK (fun cur j hj hc => ?_) _ (Nat.le_refl _)⟩
      obtain ⟨p, hx⟩ := get_lt (show ps.length - 1 - e < ps.length by omega)
      obtain ⟨h1, h2, h3, h4, h5⟩ := hp.each _ p hx
      have hpx : ps.getD (ps.length - 1 - e) (0, 0) = p := by simp [List.getD, hx]
      unfold lvX
      rw [hpx]
      refine leastV_bd hpl hj (fun h0 => ?_) hc fun h0 hm hr => ?_
      · obtain ⟨y, hy1, hy2, hy3⟩ := h4 (by omega)
        rw [hy1]
        have hlt : y + e - ps.length < (tabL cells ps par prev r e).length := by rw [tabL_length]; omega
        have hlt' : ((y : Int)).toNat + e - ps.length < (tabL cells ps par prev r e).length := by simpa using hlt
        simp only [Option.getD_some, List.getD, List.getElem?_eq_getElem hlt']
        exact ih _ (List.getElem_mem hlt')
      · have hx1 := h5 (by omega) hm
        obtain ⟨hl, ho⟩ := hprev hr
        have hlt : ps.length - 1 - e + 1 < prev.length := by omega
        simp only [List.getD, List.getElem?_eq_getElem hlt, Option.getD_some]
        exact ho _ (List.getElem_mem hlt)
    · exact ih l hl
theorem restL_OK {cells : List Cel} {ps : List Pos} {par : List Int} (hp : PosOK cells ps) (hpl : par.length ≤ 60) : ∀ r, ∀ t ∈ restL cells ps par r, t.length = ps.length ∧ ∀ z ∈ t, rowOK par.length z
  | 0, t, h => by cases h
  | r + 1, t, h => by
    have ih := restL_OK hp hpl r
    rw [restL] at h
    rcases List.mem_append.1 h with h | h
    · exact ih t h
    · simp at h; subst h
      refine ⟨tabL_length _ _ _ _ _ _, tabL_OK hp hpl (fun hr => ?_) _ (Nat.le_refl _)⟩
      have hlt : r - 1 < (restL cells ps par r).length := by rw [restL_length]; omega
      simp only [List.getElem?_eq_getElem hlt, Option.getD_some]
      exact ih _ (List.getElem_mem hlt)
end Go.Abs.Wall
set_option maxRecDepth 100000
set_option linter.unusedVariables false
namespace Go.Abs.Wall
open Go Go.Abs Go.Proofs
def RV (cells : List Cel) (ps : List Pos) (par : List Int) (r : Nat) (rv : AV) (T : Heap) : Prop :=
  (r = 0 ∧ rv = .nilS ∧ T = []) ∨ (∃ q, rv = .sl 1 (some q) ((restL cells ps par r).map encTab) ∧ T = [(q, .tok)])
theorem QCall.frQ {P : Program} {f : FuncId} {args : List AV} {v : AV} {h : Heap} (hq : QCall P f args h v) (T : Heap) : QCall P f args (h ++ T) v :=
  ACalls.mono (by rintro v' h' ⟨h1, ⟨rfl, rfl⟩, rfl⟩; exact ⟨rfl, rfl⟩) (ACalls.frame hq T)
theorem getD_lt {α : Type} {l : List α} {k : Nat} {d : α} (h : k < l.length) : l.getD k d = l[k] := by simp [List.getD, h]
theorem heap2T {a b : Nat} {x x' y y' : List AV} {R : Heap} (hx : x = x') (hy : y = y') : (a, Ob.vec x) :: (b, Ob.vec y) :: R = (a, Ob.vec x') :: (b, Ob.vec y') :: R := by subst hx; subst hy; rfl
def c83 : Cfg := ⟨[0, 2, 3, 4, 5, 6, 14, 15, 16, 27, 38], [], [], [], [(12, [0, 1, 2, 3, 4, 5, 6, 7, 8, 9, 10, 11, 12], [])], []⟩
set_option maxHeartbeats 2000000 in
theorem prepare {n : Int} {cells : List Cel} {par : List Int} {pq : Nat} {b km : Nat} {ps : List Pos} (hc : CelsOK cells) (hps : PosOK cells ps) (hpl : par.length ≤ 60) :
    ACalls Try.prog 83 [.optr b 0] (sh n cells par (.sl 2 (some pq) (ps.map encPos)) ps .nilS b km)
      (fun v h' => v = .tup [] ∧ ∃ q, h' = sh n cells par (.sl 2 (some pq) (ps.map encPos)) ps (.sl 1 (some q) ((restL cells ps par ((cells.map (·.mx)).sum + 1).toNat).map encTab)) b km ++ [(q, .tok)]) := by
  have hfar : far = 1048576 := rfl
  have hcl := hc.len
  have hil := ints_length par
  have hN := hps.len
  obtain ⟨S, hS⟩ : ∃ S, S = (cells.map (·.mx)).sum := ⟨_, rfl⟩
  have hS0 : 0 ≤ S ∧ S ≤ 400 := by
    have key : ∀ l : List Cel, (∀ c ∈ l, 0 ≤ c.mx ∧ c.mx ≤ 9) → 0 ≤ (l.map (·.mx)).sum ∧ (l.map (·.mx)).sum ≤ 9 * l.length := by
      intro l
      induction l with
      | nil => intro _; simp
      | cons c l ih =>
        intro h
        have h1 := ih fun x hx => h x (by simp [hx])
        have h2 := h c (by simp)
        simp only [List.map_cons, List.sum_cons, List.length_cons]
        omega
    have := key cells fun c hx => by have := hc.each c hx; omega
    rw [hS]; omega
  rw [← hS]
  refine fcalls (F := Try.f83) c83 rfl rfl rfl mixed rfl fun X => ?_
  conv => whnf
  repeat ((first | refine ⟨gP_of ⟨by omega, by omega⟩, ?_⟩ | (refine QCall.k (total n cells par (.sl 2 (some pq) (ps.map encPos)) .nilS b km ps hc) ?_) | refine ⟨_, _, .head _, rfl, ?_⟩); conv => whnf)
  rw [hil, ← hS]
  refine tloop rfl mixed [0, 2, 14, 15] [] (fun m r h => ∃ (r1 : Nat) (rv : AV) (T : Heap), r = [(0, [], .optr b 0), (2, [], .int .i64 par.length), (14, [], .int .i64 (S + 1)), (15, [], .int .i64 r1)] ∧ h = sh n cells par (.sl 2 (some pq) (ps.map encPos)) ps rv b km ++ T ∧ m = (S + 1).toNat - r1 ∧ r1 ≤ S + 1 ∧ RV cells ps par r1 rv T) ?_ ?_
  · conv => whnf
    exact ⟨_, _, Turn.refl _ _, _, 0, .nilS, [], rfl, rfl, rfl, by omega, .inl ⟨rfl, rfl, rfl⟩⟩
  · rintro mm rr h ⟨r1, rv, T, rfl, rfl, rfl, hr1, hrv⟩
    conv => whnf
    refine ⟨fun hf => ?_, fun hf => ?_⟩ <;> simp at hf
    · have hpsl : (ps.map encPos).length = ps.length := by simp
      have e1 : ((ps.map encPos).length : Int).toNat = ps.length := by omega
      have e2 : ((par.length : Int) + 1).toNat = par.length + 1 := by omega
      conv => whnf
      repeat (refine ⟨_, _, .head _, rfl, ?_⟩; conv => whnf)
      refine ⟨⟨rfl, by omega, by omega⟩, ?_⟩
      intro tb
      conv => whnf
      rw [e1, repC_F]
      refine QCall.k (QCall.more (QCall.frQ (lastC n cells par .nilS rv b km pq ps (idxOf ps) hN.2) T)) ?_
      conv => whnf
      refine tloop rfl mixed [0, 2, 3, 4, 5, 14, 15] [] (fun m r h => ∃ (e : Nat) (tv : AV) (hp : Heap), r = [(0, [], .optr b 0), (2, [], .int .i64 par.length), (3, [], .int .i64 r1), (4, [], tv), (5, [], .int .i64 ((ps.length : Int) - 1 - e)), (14, [], .int .i64 (S + 1)), (15, [], .int .i64 r1)] ∧ h = hp ++ (sh n cells par (.sl 2 (some pq) (ps.map encPos)) ps rv b km ++ T) ∧ m = ps.length - e ∧ e ≤ ps.length ∧ ((e < ps.length ∧ tv = .osl tb 0 ps.length 1 ∧ hp = [(tb, .vec (rowsF ps.length (fun z => if ps.length ≤ z + e then .sl 1 none (ints ((tabL cells ps par ((restL cells ps par r1).getD (r1 - 1) []) r1 e).getD (z + e - ps.length) [])) else .nilS)))]) ∨ (e = ps.length ∧ tv = .sl 1 none ((tabL cells ps par ((restL cells ps par r1).getD (r1 - 1) []) r1 ps.length).map fun r => [.sl 1 none (ints r)]) ∧ hp = []))) ?_ ?_
      · conv => whnf
        refine ⟨_, _, Turn.refl _ _, _, 0, .osl tb 0 ps.length 1, [(tb, .vec (rowsF ps.length fun _ => .nilS))], by rw [show (ps.length : Int) - 1 - (0 : Nat) = ps.length - 1 from by omega]; rfl, rfl, rfl, by omega, .inl ⟨by omega, rfl, ?_⟩⟩
        congr 2
        congr 1
        exact rowsF_congr fun j hj => by rw [if_neg (by omega)]
      · rintro mm rr h ⟨e, tv, hp, rfl, rfl, rfl, he, htv⟩
        by_cases hlt : e < ps.length
        · rcases htv.resolve_right (fun h => by omega) with ⟨_, rfl, rfl⟩
          obtain ⟨x, hx⟩ : ∃ x : Nat, (ps.length : Int) - 1 - e = x := ⟨ps.length - 1 - e, by omega⟩
          rw [hx]
          conv => whnf
          refine cT (by simp) ?_
          conv => whnf
          repeat (refine ⟨gP_of ⟨by omega, by omega⟩, ?_⟩; conv => whnf)
          refine ⟨⟨rfl, by omega, by omega⟩, ?_⟩
          intro rw_
          conv => whnf
          rw [e2, repC_F]
          refine ixo (by omega) ?_
          conv => whnf
          refine stoF (by simp <;> omega) (.there (.here _)) ?_
          conv => whnf
          skip
          refine sloop rfl mixed [0, 2, 3, 4, 5, 6, 14, 15] [] (fun m r h => ∃ (d : Nat), r = [(0, [], .optr b 0), (2, [], .int .i64 par.length), (3, [], .int .i64 r1), (4, [], .osl tb 0 ps.length 1), (5, [], .int .i64 x), (6, [], .int .i64 ((par.length : Int) - d)), (14, [], .int .i64 (S + 1)), (15, [], .int .i64 r1)] ∧ h = [(rw_, .vec (rowsF (par.length + 1) fun k => if par.length < k + d then .int .i64 ((rowL (lvX cells ps par ((restL cells ps par r1).getD (r1 - 1) []) r1 (fun z => (tabL cells ps par ((restL cells ps par r1).getD (r1 - 1) []) r1 e).getD (z + e - ps.length) []) x) par.length d).getD (k + d - (par.length + 1)) 0) else .int .i64 0)), (tb, .vec (rowsF ps.length fun z => if z = x then .osl rw_ 0 (par.length + 1) 1 else if ps.length ≤ z + e then .sl 1 none (ints ((tabL cells ps par ((restL cells ps par r1).getD (r1 - 1) []) r1 e).getD (z + e - ps.length) [])) else .nilS))] ++ (sh n cells par (.sl 2 (some pq) (ps.map encPos)) ps rv b km ++ T) ∧ m = par.length + 1 - d ∧ d ≤ par.length + 1) ?_ ?_
          · conv => whnf
            refine ⟨_, 0, by rw [show (par.length : Int) - (0 : Nat) = par.length from by omega], ?_, rfl, by omega⟩
            refine heap2T ?_ ?_
            · exact rowsF_congr fun j hj => by rw [if_neg (by omega)]
            · exact rowsF_congr fun j hj => by rw [Nat.zero_add, Nat.mul_one]; rfl
          · rintro mm rr h ⟨d, rfl, rfl, rfl, hd⟩
            conv => whnf
            by_cases hdm : d ≤ par.length
            · obtain ⟨j, hj⟩ : ∃ j : Nat, (par.length : Int) - d = j := ⟨par.length - d, by omega⟩
              rw [hj]
              refine cT (by simp) ?_
              conv => whnf
              obtain ⟨p, hpx⟩ := get_lt (show x < ps.length by omega)
              obtain ⟨hp1, hp2, hp3, hp4, hp5⟩ := hps.each x p hpx
              obtain ⟨rq, hrq⟩ : ∃ rq, 0 < r1 → rv = .sl 1 (some rq) ((restL cells ps par r1).map encTab) := by
                rcases hrv with ⟨h1, _⟩ | ⟨q, h1, _⟩
                · exact ⟨0, fun h => by omega⟩
                · exact ⟨q, fun _ => h1⟩
              have hrest := restL_OK (cells := cells) hps hpl r1
              have hprev : 0 < r1 → (restL cells ps par r1)[r1 - 1]? = some ((restL cells ps par r1).getD (r1 - 1) []) ∧ ((restL cells ps par r1).getD (r1 - 1) []).length = ps.length ∧ ∀ z ∈ ((restL cells ps par r1).getD (r1 - 1) []), rowOK par.length z := by
                intro h
                have hl : r1 - 1 < (restL cells ps par r1).length := by rw [restL_length]; omega
                simp only [List.getD, List.getElem?_eq_getElem hl, Option.getD_some]
                exact ⟨trivial, hrest _ (List.getElem_mem hl)⟩
              have htab := tabL_OK (cells := cells) (r := r1) hps hpl (fun h => (hprev (by omega)).2) e he
              have hpg : ps.getD x (0, 0) = p := by simp [List.getD, hpx]
              have hlv : ∀ (cur : Nat → Int) (j : Nat), lvX cells ps par ((restL cells ps par r1).getD (r1 - 1) []) r1 (fun z => (tabL cells ps par ((restL cells ps par r1).getD (r1 - 1) []) r1 e).getD (z + e - ps.length) []) x cur j =
                  leastV cells par ((restL cells ps par r1).getD (r1 - 1) []) (fun z => (tabL cells ps par ((restL cells ps par r1).getD (r1 - 1) []) r1 e).getD (z + e - ps.length) []) cur ((lookA (p.1 + 1, 0) (idxOf ps)).getD 0).toNat p x j r1 := by
                intro cur j; unfold lvX; rw [hpg]
              have hrow := rowL_OK (lv := lvX cells ps par ((restL cells ps par r1).getD (r1 - 1) []) r1 (fun z => (tabL cells ps par ((restL cells ps par r1).getD (r1 - 1) []) r1 e).getD (z + e - ps.length) []) x) (m := par.length) (fun cur j hj hcur => by
                rw [hlv]
                refine leastV_bd hpl hj (fun h0 => ?_) hcur fun h0 hm hr => ?_
                · obtain ⟨y, hy1, hy2, hy3⟩ := hp4 (by omega)
                  rw [hy1]
                  have hl : y + e - ps.length < (tabL cells ps par ((restL cells ps par r1).getD (r1 - 1) []) r1 e).length := by rw [tabL_length]; omega
                  simp only [Option.getD_some, Int.toNat_natCast]
                  rw [List.getD, List.getElem?_eq_getElem hl]
                  exact htab _ (List.getElem_mem hl)
                · have hx1 := hp5 (by omega) hm
                  have hpv := hprev (by omega)
                  have hl : x + 1 < ((restL cells ps par r1).getD (r1 - 1) []).length := by omega
                  rw [List.getD, List.getElem?_eq_getElem hl]
                  exact hpv.2.2 _ (List.getElem_mem hl)) d (by omega)
              have hcall := QCall.frQ (least (n := n) (cells := cells) (par := par) (pq := pq) (rq := rq) (b := b) (km := km) (tb := tb) (rw_ := rw_) (ps := ps) (rest := restL cells ps par r1) (prev := (restL cells ps par r1).getD (r1 - 1) [])
                (later := fun z => (tabL cells ps par ((restL cells ps par r1).getD (r1 - 1) []) r1 e).getD (z + e - ps.length) []) (cur := fun k => (rowL (lvX cells ps par ((restL cells ps par r1).getD (r1 - 1) []) r1 (fun z => (tabL cells ps par ((restL cells ps par r1).getD (r1 - 1) []) r1 e).getD (z + e - ps.length) []) x) par.length d).getD (k + d - (par.length + 1)) 0)
                (tf := fun z => if z = x then .osl rw_ 0 (par.length + 1) 1 else if ps.length ≤ z + e then .sl 1 none (ints ((tabL cells ps par ((restL cells ps par r1).getD (r1 - 1) []) r1 e).getD (z + e - ps.length) [])) else .nilS)
                (rf := fun k => if par.length < k + d then .int .i64 ((rowL (lvX cells ps par ((restL cells ps par r1).getD (r1 - 1) []) r1 (fun z => (tabL cells ps par ((restL cells ps par r1).getD (r1 - 1) []) r1 e).getD (z + e - ps.length) []) x) par.length d).getD (k + d - (par.length + 1)) 0) else .int .i64 0)
                (x := x) (j := j) (y := ((lookA (p.1 + 1, 0) (idxOf ps)).getD 0).toNat) (r0 := r1) (p := p) (rv := rv) hc hpl hN.2 hpx hp1 hp2 hp3 (by omega) (by omega) (by omega)
                (fun h => by obtain ⟨y, hy1, hy2, hy3⟩ := hp4 h; rw [hy1]; exact ⟨rfl, hy2, hy3⟩) hp5 (by simp)
                (fun z hz1 hz2 => ⟨by rw [if_neg (by omega), if_pos (by omega)], by
                  have hl : z + e - ps.length < (tabL cells ps par ((restL cells ps par r1).getD (r1 - 1) []) r1 e).length := by rw [tabL_length]; omega
                  rw [List.getD, List.getElem?_eq_getElem hl]
                  exact htab _ (List.getElem_mem hl)⟩)
                (fun k hk1 hk2 => ⟨by rw [if_pos (by omega)], by
                  have hl : k + d - (par.length + 1) < (rowL (lvX cells ps par ((restL cells ps par r1).getD (r1 - 1) []) r1 (fun z => (tabL cells ps par ((restL cells ps par r1).getD (r1 - 1) []) r1 e).getD (z + e - ps.length) []) x) par.length d).length := by rw [rowL_length]; omega
                  rw [List.getD, List.getElem?_eq_getElem hl]
                  exact hrow _ (List.getElem_mem hl)⟩)
                (fun h => ⟨hrq (by omega), by have := hprev (by omega); rw [show ((r1 : Int) - 1).toNat = r1 - 1 from by omega]; exact this⟩)) T
              repeat ((first | refine ⟨gP_of ⟨by omega, by omega⟩, ?_⟩ | (refine ixo (by omega) ?_) | (refine ldoF (.osl rw_ 0 (par.length + 1) 1) (.tail _ (.head _)) rfl (by simp <;> omega) (by simp) ?_)
                             | (refine gcallH hcall ?_) | (refine stoF (by simp <;> omega) (.here _) ?_) | refine And.intro (by show drawOK (opsAt Try.f83 _) _ = true; decide +kernel) ?_); conv => whnf)
              refine ⟨_, by omega, d + 1, by rw [show (par.length : Int) - ((d + 1 : Nat) : Int) = (j : Int) - 1 from by omega], heap2T (rowsF_congr fun k hk => ?_) rfl, rfl, by omega⟩
              by_cases hkj : k = j
              · rw [if_pos (by omega), if_pos (by omega), rowL_get _ _ _ _ (by omega) (by omega) (by omega), if_pos (by omega), hlv, show par.length - d = j from by omega]
              · rw [if_neg (by omega)]
                by_cases hkd : par.length < k + d
                · rw [if_pos hkd, if_pos (by omega), rowL_get _ _ _ _ (by omega) (by omega) (by omega), if_neg (by omega)]
                · rw [if_neg hkd, if_neg (by omega)]
            · obtain rfl : d = par.length + 1 := by omega
              refine cF (by simp <;> omega) ?_
              conv => whnf
              repeat (refine ⟨gP_of ⟨by omega, by omega⟩, ?_⟩; conv => whnf)
              have hxe : x = ps.length - 1 - e := by omega
              have hnew : ∀ z, z < ps.length → ps.length ≤ z + (e + 1) → (tabL cells ps par ((restL cells ps par r1).getD (r1 - 1) []) r1 (e + 1)).getD (z + (e + 1) - ps.length) [] =
                  if z = x then rowL (lvX cells ps par ((restL cells ps par r1).getD (r1 - 1) []) r1 (fun z => (tabL cells ps par ((restL cells ps par r1).getD (r1 - 1) []) r1 e).getD (z + e - ps.length) []) x) par.length (par.length + 1) else (tabL cells ps par ((restL cells ps par r1).getD (r1 - 1) []) r1 e).getD (z + e - ps.length) [] := by
                intro z hz hz2
                rw [tabL, ← hxe]
                by_cases h : z = x
                · rw [if_pos h, show z + (e + 1) - ps.length = 0 from by omega]; rfl
                · rw [if_neg h, show z + (e + 1) - ps.length = (z + e - ps.length) + 1 from by omega]; rfl
              have hfz : ∀ z, z < ps.length → FzV rw_ (rowsF (par.length + 1) fun k => if par.length < k + (par.length + 1) then .int .i64 ((rowL (lvX cells ps par ((restL cells ps par r1).getD (r1 - 1) []) r1 (fun z => (tabL cells ps par ((restL cells ps par r1).getD (r1 - 1) []) r1 e).getD (z + e - ps.length) []) x) par.length (par.length + 1)).getD (k + (par.length + 1) - (par.length + 1)) 0) else .int .i64 0)
                  (if z = x then .osl rw_ 0 (par.length + 1) 1 else if ps.length ≤ z + e then .sl 1 none (ints ((tabL cells ps par ((restL cells ps par r1).getD (r1 - 1) []) r1 e).getD (z + e - ps.length) [])) else .nilS)
                  (if ps.length ≤ z + (e + 1) then .sl 1 none (ints ((tabL cells ps par ((restL cells ps par r1).getD (r1 - 1) []) r1 (e + 1)).getD (z + (e + 1) - ps.length) [])) else .nilS) := by
                intro z hz
                by_cases h : z = x
                · rw [if_pos h, if_pos (by omega), hnew z hz (by omega), if_pos h]
                  refine fzF ?_
                  apply List.ext_getElem
                  · simp [ints, rowL_length]
                  · intro k h1 h2
                    simp only [ints, List.length_map, rowL_length] at h1
                    simp only [ints, List.getElem_map, List.getElem_range]
                    rw [if_pos (by omega), show k + (par.length + 1) - (par.length + 1) = k from by omega]
                    have hl : k < (rowL (lvX cells ps par ((restL cells ps par r1).getD (r1 - 1) []) r1 (fun z => (tabL cells ps par ((restL cells ps par r1).getD (r1 - 1) []) r1 e).getD (z + e - ps.length) []) x) par.length (par.length + 1)).length := by rw [rowL_length]; exact h1
                    rw [getD_lt hl]
                · rw [if_neg h]
                  by_cases h2 : ps.length ≤ z + e
                  · rw [if_pos h2, if_pos (by omega), hnew z hz (by omega), if_neg h]; exact .refl _
                  · rw [if_neg h2, if_neg (by omega)]; exact .refl _
              by_cases hlast : e + 1 < ps.length
              · refine ⟨_, _, Turn.freeze (.here _) (.vec (FzVs.ofF hfz) (FzH.refl _)) (FzR.refl _), _, by omega, e + 1, .osl tb 0 ps.length 1, [(tb, _)], by rw [show (ps.length : Int) - 1 - ((e + 1 : Nat) : Int) = (x : Int) - 1 from by omega], rfl, rfl, by omega, .inl ⟨hlast, rfl, rfl⟩⟩
              · obtain hN2 : e + 1 = ps.length := by omega
                refine ⟨_, _, Turn.trans (Turn.freeze (.here _) (.vec (FzVs.ofF hfz) (FzH.refl _)) (FzR.refl _)) (Turn.freeze (.here _) (FzH.refl _) (.cons (.refl _) (.cons (.refl _) (.cons (.refl _) (.cons (fzF ?_) (FzR.refl _)))))), _, by omega, e + 1, _, [], by rw [show (ps.length : Int) - 1 - ((e + 1 : Nat) : Int) = (x : Int) - 1 from by omega], rfl, rfl, by omega, .inr ⟨hN2, rfl, rfl⟩⟩
                rw [← hN2]
                apply List.ext_getElem
                · simp [tabL_length]
                · intro k h1 h2
                  simp only [List.length_map, tabL_length] at h1
                  simp only [List.getElem_map, List.getElem_range]
                  rw [if_pos (by omega), show k + (e + 1) - (e + 1) = k from by omega]
                  have hl : k < (tabL cells ps par ((restL cells ps par r1).getD (r1 - 1) []) r1 (e + 1)).length := by rw [tabL_length]; exact h1
                  rw [getD_lt hl]
        · obtain rfl : e = ps.length := by omega
          rcases htv.resolve_left (fun h => by omega) with ⟨_, rfl, rfl⟩
          conv => whnf
          refine cF (by simp <;> omega) ?_
          conv => whnf
          have hcat : (restL cells ps par (r1 + 1)).map encTab = (restL cells ps par r1).map encTab ++ [encTab (tabL cells ps par ((restL cells ps par r1).getD (r1 - 1) []) r1 ps.length)] := by
            rw [restL, List.map_append]; rfl
          rcases hrv with ⟨rfl, rfl, rfl⟩ | ⟨q, rfl, rfl⟩
          · conv => whnf
            repeat ((first | refine ⟨gP_of ⟨by omega, by omega⟩, ?_⟩ | (refine ⟨(by show 1 ≤ 4294967296; omega), fun q' => ?_⟩) | refine ⟨_, _, .head _, rfl, ?_⟩ | refine ⟨_, _, .there (.here _), leOK, ?_⟩); conv => whnf)
            have hperm : ([(q', Ob.tok)] ++ sh n cells par (.sl 2 (some pq) (ps.map encPos)) ps (.sl 1 (some q') ((restL cells ps par 1).map encTab)) b km).Perm (sh n cells par (.sl 2 (some pq) (ps.map encPos)) ps (.sl 1 (some q') ((restL cells ps par 1).map encTab)) b km ++ [(q', .tok)]) := List.perm_append_comm
            exact ⟨_, sh n cells par (.sl 2 (some pq) (ps.map encPos)) ps (.sl 1 (some q') ((restL cells ps par 1).map encTab)) b km ++ [(q', Ob.tok)], Turn.sub (h := [(q', Ob.tok)] ++ sh n cells par (.sl 2 (some pq) (ps.map encPos)) ps (.sl 1 (some q') ((restL cells ps par 1).map encTab)) b km) (h' := sh n cells par (.sl 2 (some pq) (ps.map encPos)) ps (.sl 1 (some q') ((restL cells ps par 1).map encTab)) b km ++ [(q', Ob.tok)]) (fun k o hm => hperm.mem_iff.2 hm) (fun hnd => (List.Perm.map (fun x : Nat × Ob => x.1) hperm).nodup_iff.1 hnd), _, by omega, 1, _, [(q', .tok)], rfl, rfl, rfl, by omega, .inr ⟨q', rfl, rfl⟩⟩
          · conv => whnf
            repeat ((first | refine ⟨gP_of ⟨by omega, by omega⟩, ?_⟩ | (refine ⟨(by rw [List.length_append, List.length_map, restL_length]; show _ + 1 ≤ 4294967296; omega), fun q' => ⟨_, .there (.there (.here _)), ?_⟩⟩)
                           | refine ⟨_, _, .head _, rfl, ?_⟩ | refine ⟨_, _, .here _, leOK, ?_⟩); conv => whnf)
            exact ⟨_, _, Turn.refl _ _, _, by omega, r1 + 1, .sl 1 (some q') ((restL cells ps par (r1 + 1)).map encTab), [(q', .tok)], rfl, by rw [hcat]; rfl, rfl, by omega, .inr ⟨q', rfl, rfl⟩⟩
    · rcases hrv with ⟨rfl, rfl, rfl⟩ | ⟨q, rfl, rfl⟩
      · omega
      · conv => whnf
        exact ⟨rfl, q, by rw [show (S + 1).toNat = r1 from by omega]⟩
end Go.Abs.Wall
set_option maxRecDepth 100000
set_option linter.unusedVariables false
namespace Go.Abs.Wall
open Go Go.Abs Go.Proofs
/-! ### Clone, with the right to append -/
theorem cloneT (l : List Int) (hl : l.length ≤ 1048576) : ACalls Try.prog 107 [.sl 1 none (ints l)] [] (fun v h => (l = [] ∧ v = .nilS ∧ h = []) ∨ ∃ q, v = .sl 1 (some q) (ints l) ∧ h = [(q, .tok)]) := by
  by_cases h : l = []
  · subst h
    refine ACalls.nilOr ?_ ?_
    · refine fcalls (F := Try.f107) c107 rfl rfl rfl mixed rfl fun X => ?_
      conv => whnf
      refine ⟨fun hc => ?_, fun hc => ?_⟩
      · conv => whnf
        exact .inl ⟨rfl, rfl, rfl⟩
      · cases hc
    · refine fcalls (F := Try.f107) c107 rfl rfl rfl mixed rfl fun X => ?_
      conv => whnf
      refine ⟨fun hc => ?_, fun hc => ?_⟩
      · cases hc
      · conv => whnf
        intro q
        conv => whnf
        refine ⟨by simp [AMAX], fun q' => ⟨_, .here _, ?_⟩⟩
        conv => whnf
        exact .inr ⟨q', rfl, rfl⟩
  · refine fcalls (F := Try.f107) c107 rfl rfl rfl mixed rfl fun X => ?_
    conv => whnf
    refine ⟨ints_ne h, ?_⟩
    conv => whnf
    refine ⟨fun hc => ?_, fun hc => ?_⟩
    · cases hc
    · conv => whnf
      intro q
      conv => whnf
      refine ⟨by simp [AMAX]; omega, fun q' => ⟨_, .here _, ?_⟩⟩
      conv => whnf
      exact .inr ⟨q', rfl, rfl⟩
/-- the list of restorations, and its token -/
def OV (out : List Rst) (v : AV) (T : Heap) : Prop := (out = [] ∧ v = .nilS ∧ T = []) ∨ (∃ q, v = .sl 4 (some q) (out.map encRst) ∧ T = [(q, .tok)])
def c86 : Cfg := ⟨[0, 1, 2, 3, 5], [], [], [], [(1, [0, 1, 2, 3, 4, 5, 6, 7, 8, 9, 10, 11, 12, 13], [])], []⟩
theorem yieldC {n : Int} {cells : List Cel} {par line : List Int} {pv rv ov : AV} {T : Heap} {b km ob : Nat} {ps : List Pos} {out : List Rst} {most : Int} {K : AV → Heap → Prop} (hc : CelsOK cells) (hp : par.length ≤ 60) (hl : line.length ≤ 60) (ho : out.length ≤ 1048576) (hov : OV out ov T)
    (hk : ∀ q, K (.bool (decide ((out.length : Int) + 1 < most))) (sh n cells par pv ps rv b km ++ [(ob, .vec [.sl 4 (some q) ((out ++ [restored cells par line]).map encRst)])] ++ [(q, .tok)])) :
    ACalls Try.prog 86 [.sl 1 none (ints line), .optr ob 0, .iptr [.optr b 0], .iptr [.int .i64 most]] (sh n cells par pv ps rv b km ++ [(ob, .vec [ov])] ++ T) K := by
  suffices h : ACalls Try.prog 86 [.sl 1 none (ints line), .optr ob 0, .iptr [.optr b 0], .iptr [.int .i64 most]] (sh n cells par pv ps rv b km ++ [(ob, .vec [ov])] ++ T)
      (fun v h' => v = .bool (decide ((out.length : Int) + 1 < most)) ∧ ∃ q, (sh n cells par pv ps rv b km ++ [(ob, Ob.vec [.sl 4 (some q) ((out ++ [restored cells par line]).map encRst)])] ++ [(q, Ob.tok)]).Perm h') by
    refine ACalls.post h ?_
    rintro v h' ⟨rfl, q, hperm⟩
    exact ⟨_, _, hk q, VLe.refl _, fun k o hm => hperm.mem_iff.1 hm, fun hnd => (List.Perm.map (fun x : Nat × Ob => x.1) hperm).nodup_iff.2 hnd⟩
  rcases hov with ⟨rfl, rfl, rfl⟩ | ⟨q, rfl, rfl⟩
  · refine fcalls (F := Try.f86) c86 rfl rfl rfl mixed rfl fun X => ?_
    conv => whnf
    repeat ((first | refine gcall (restoredW cells par line hc hp hl) ?_ | (refine ⟨_, _, .tail _ (.tail _ (.head _)), rfl, ?_⟩) | (refine ⟨(by show 1 ≤ 4294967296; omega), fun q' => ?_⟩)
                   | (refine ⟨_, _, .there (.there (.there (.here _))), ⟨Nat.le_of_ble_eq_true rfl, Nat.le_of_ble_eq_true rfl⟩, ?_⟩) | (refine ⟨_, _, .tail _ (.tail _ (.tail _ (.head _))), rfl, ?_⟩)
                   | refine ⟨_, _, .head _, rfl, ?_⟩ | refine And.intro (by show drawOK (opsAt Try.f86 _) _ = true; decide +kernel) ?_); conv => whnf)
    exact ⟨by simp, q', List.perm_append_comm (l₁ := sh n cells par pv ps rv b km ++ [(ob, Ob.vec [.sl 4 (some q') (([] ++ [restored cells par line]).map encRst)])]) (l₂ := [(q', Ob.tok)])⟩
  · refine fcalls (F := Try.f86) c86 rfl rfl rfl mixed rfl fun X => ?_
    conv => whnf
    repeat ((first | refine gcall (restoredW cells par line hc hp hl) ?_ | (refine ⟨_, _, .tail _ (.tail _ (.head _)), rfl, ?_⟩) | (refine ⟨(by rw [List.length_append, List.length_map]; show _ + 1 ≤ 4294967296; omega), fun q' => ⟨_, .there (.there (.there (.here _))), ?_⟩⟩)
                   | (refine ⟨_, _, .there (.there (.here _)), ⟨Nat.le_of_ble_eq_true rfl, Nat.le_of_ble_eq_true rfl⟩, ?_⟩) | refine ⟨_, _, .head _, rfl, ?_⟩ | refine And.intro (by show drawOK (opsAt Try.f86 _) _ = true; decide +kernel) ?_); conv => whnf)
    exact ⟨by simp, q', by rw [List.map_append]; exact List.Perm.refl _⟩
end Go.Abs.Wall
set_option maxRecDepth 100000
set_option linter.unusedVariables false
namespace Go.Abs.Wall
open Go Go.Abs Go.Proofs
theorem Turn.perm {r : Regs} {h h' : Heap} (hp : h'.Perm h) : Turn r h r h' :=
  Turn.sub (fun k o hm => hp.mem_iff.1 hm) (fun hnd => by
    have := (List.Perm.map (fun x : Nat × Ob => x.1) hp).nodup_iff
    exact this.2 hnd)
/-! ### Whole -/
/-- what the pairs write over a row of sources -/
def wr (par line : List Int) : (Nat → Int) → List (Int × Int) → Nat → Int
  | f, [] => f
  | f, p :: ps => wr par line (fun q => if q = p.1.toNat ∧ line.getD p.1.toNat 0 = par.getD p.2.toNat 0 then p.2 else f q) ps
theorem wr_cmp (par line : List Int) : ∀ (PG : List Int) (i : Nat) (f : Nat → Int) (q : Nat), wr par line f (cmp PG i) q =
    if i ≤ q ∧ q < i + PG.length ∧ 0 ≤ PG.getD (q - i) 0 ∧ line.getD q 0 = par.getD (PG.getD (q - i) 0).toNat 0 then PG.getD (q - i) 0 else f q
  | [], i, f, q => by rw [cmp, wr, if_neg (by simp only [List.length_nil]; omega)]
  | k :: PG, i, f, q => by
    have ih := wr_cmp par line PG (i + 1)
    have hsh : i < q → (k :: PG).getD (q - i) 0 = PG.getD (q - (i + 1)) 0 := fun h => by
      rw [show q - i = (q - (i + 1)) + 1 from by omega, List.getD_cons_succ]
    unfold cmp
    by_cases hk : 0 ≤ k
    · rw [if_pos hk, wr, ih]
      by_cases hq : q = i
      · subst hq
        rw [if_neg (by omega)]
        simp only [Int.toNat_natCast, Nat.sub_self, List.getD_cons_zero, List.length_cons, true_and]
        by_cases hc : line.getD q 0 = par.getD k.toNat 0
        · rw [if_pos hc, if_pos ⟨Nat.le_refl _, by omega, hk, hc⟩]
        · rw [if_neg hc, if_neg (fun h => hc h.2.2.2)]
      · simp only [Int.toNat_natCast, hq, false_and, if_false]
        by_cases hl : i < q
        · rw [hsh hl]
          simp only [List.length_cons]
          by_cases hc : i + 1 ≤ q ∧ q < i + 1 + PG.length ∧ 0 ≤ PG.getD (q - (i + 1)) 0 ∧ line.getD q 0 = par.getD (PG.getD (q - (i + 1)) 0).toNat 0
          · rw [if_pos hc, if_pos ⟨by omega, by omega, hc.2.2⟩]
          · rw [if_neg hc, if_neg (fun h => hc ⟨by omega, by omega, h.2.2⟩)]
        · rw [if_neg (by omega), if_neg (by omega)]
    · rw [if_neg hk, ih]
      by_cases hq : q = i
      · subst hq
        rw [if_neg (by omega), if_neg (fun h => hk (by simpa using h.2.2.1))]
      · by_cases hl : i < q
        · rw [hsh hl]
          simp only [List.length_cons]
          by_cases hc : i + 1 ≤ q ∧ q < i + 1 + PG.length ∧ 0 ≤ PG.getD (q - (i + 1)) 0 ∧ line.getD q 0 = par.getD (PG.getD (q - (i + 1)) 0).toNat 0
          · rw [if_pos hc, if_pos ⟨by omega, by omega, hc.2.2⟩]
          · rw [if_neg hc, if_neg (fun h => hc ⟨by omega, by omega, h.2.2⟩)]
        · rw [if_neg (by omega), if_neg (by omega)]
theorem srcGo_get (par : List Int) : ∀ (PG line : List Int) (q : Nat), q < PG.length → q < line.length → (srcGo par PG line).getD q 0 = if 0 ≤ PG.getD q 0 ∧ par.getD (PG.getD q 0).toNat 0 ≠ line.getD q 0 then -1 else PG.getD q 0
  | [], _, q, h, _ => by simp at h
  | _ :: _, [], q, _, h => by simp at h
  | k :: PG, x :: line, 0, _, _ => by rw [srcGo]; simp only [List.getD_cons_zero]
  | k :: PG, x :: line, q + 1, h1, h2 => by
    rw [srcGo]
    simp only [List.getD_cons_succ]
    exact srcGo_get par PG line q (by simpa using h1) (by simpa using h2)
theorem wr_src (par line : List Int) (q : Nat) (hq : q < line.length) : wr par line (fun _ => -1) (cmp (pairsGo line par 0) 0) q = (srcGo par (pairsGo line par 0) line).getD q 0 := by
  have hl := pairsGo_length line par 0
  have hq2 : q < (pairsGo line par 0).length := by omega
  rw [wr_cmp, srcGo_get par _ _ _ hq2 hq, Nat.sub_zero]
  have hb := pairsGo_bd line par 0 ((pairsGo line par 0).getD q 0) (by rw [getD_lt hq2]; exact List.getElem_mem hq2)
  generalize (pairsGo line par 0).getD q 0 = k at *
  by_cases h0 : 0 ≤ k
  · by_cases h1 : line.getD q 0 = par.getD k.toNat 0
    · rw [if_pos ⟨by omega, by omega, h0, h1⟩, if_neg (fun h => h.2 h1.symm)]
    · rw [if_neg (fun h => h1 h.2.2.2), if_pos ⟨h0, fun h => h1 h.symm⟩]
  · rw [if_neg (fun h => h0 h.2.2.1), if_neg (fun h => h0 h.1)]
    omega
theorem cmp_length : ∀ (l : List Int) (i : Nat), (cmp l i).length ≤ l.length
  | [], i => by simp [cmp]
  | k :: t, i => by
    have := cmp_length t (i + 1)
    unfold cmp
    split <;> simp only [List.length_cons] <;> omega
theorem cmp_bd {l p : Nat} : ∀ (PG : List Int) (i : Nat), (∀ k ∈ PG, k < p) → i + PG.length ≤ l → ∀ z ∈ cmp PG i, 0 ≤ z.1 ∧ z.1 < l ∧ 0 ≤ z.2 ∧ z.2 < p
  | [], i, _, _, z, hz => by cases hz
  | k :: PG, i, h, hl, z, hz => by
    simp only [List.length_cons] at hl
    have ih := cmp_bd (l := l) PG (i + 1) (fun k hk => h k (by simp [hk])) (by omega)
    have hk := h k (by simp)
    unfold cmp at hz
    split at hz
    · rcases List.mem_cons.1 hz with rfl | hz
      · simp only; omega
      · exact ih z hz
    · exact ih z hz
def c76 : Cfg := ⟨[0, 1, 2, 6, 7, 8, 9, 10, 11, 12, 13, 14, 22, 42, 52, 71], [], [], [], [(14, [0, 1, 2, 3, 4, 5, 6, 7, 8, 9, 10, 11, 12, 13, 14, 15, 16], []), (15, [0, 1, 2, 3, 4, 5, 6, 7, 8, 9, 10, 11, 12, 13], [])], []⟩
theorem wholeR (cells : List Cel) (par line : List Int) (hc : CelsOK cells) (hp : par.length ≤ 60) (hl : line.length ≤ 60) :
    QCall Try.prog 76 [.sl 3 none (cells.map encCel), .sl 1 none (ints par), .sl 1 none (ints line)] [] (.tup [.agg (encRst (if divide cells line = none then ⟨[], [], [], 0⟩ else restored cells par line)), .bool (decide (divide cells line ≠ none))]) := by
  have e3 : (ints par).length = par.length := by simp
  have e4 : (ints line).length = line.length := by simp
  cases hdv : divide cells line with
  | none =>
    refine QCall.of (fcalls (F := Try.f76) c76 rfl rfl rfl mixed rfl fun X => ?_)
    conv => whnf
    intro b6
    conv => whnf
    repeat (refine QCall.k0 (divideR cells line hc hl) ?_; conv => whnf)
    rw [hdv]
    refine cT rfl ?_
    conv => whnf
    repeat ((first | refine ⟨_, _, .head _, rfl, ?_⟩ | refine ⟨_, _, .here _, leOK, ?_⟩); conv => whnf)
    have hN := VLe.nil (k := 1) (by decide)
    exact VLe.tup (.cons (VLe.agg (.cons hN (.cons hN (.cons hN (VsLe.refl _))))) (VsLe.refl _))
  | some D =>
    refine QCall.of (ACalls.frz (R := fun v h => ∃ b f h2 tk, v = .tup [.agg [.sl 1 tk (ints line), .sl 1 none (ints D), .osl b 0 line.length 1, .int .i64 (dist line par)], .bool true] ∧ Rem b (.vec (rowsF line.length f)) h h2 ∧ ∀ q, q < line.length → f q = .int .i64 ((srcGo par (pairsGo line par 0) line).getD q 0)) (fcalls (F := Try.f76) c76 rfl rfl rfl mixed rfl fun X => ?_) ?_)
    rotate_left
    · rintro v h1 ⟨b, f, h2, tk, rfl, hrem, hf⟩
      have hsl : (srcGo par (pairsGo line par 0) line).length = line.length := by
        have key : ∀ (a b : List Int), a.length = b.length → (srcGo par a b).length = b.length := by
          intro a
          induction a with
          | nil => intro b h; cases b <;> simp [srcGo] at h ⊢
          | cons x a ih => intro b h; cases b with
            | nil => simp at h
            | cons y b => simp [srcGo, ih b (by simpa using h)]
        exact key _ _ (pairsGo_length line par 0)
      refine ⟨b, _, h2, h2, .tup [.agg [.sl 1 none (ints line), .sl 1 none (ints D), .sl 1 none (ints (srcGo par (pairsGo line par 0) line)), .int .i64 (dist line par)], .bool true], hrem, FzH.refl _, .tup (.cons (.agg (.cons (.le VLe.sl) (.cons (.refl _) (.cons (fzF ?_) (.cons (.refl _) .nil))))) (.cons (.refl _) .nil)), ?_⟩
      · refine List.ext_getElem? fun q => ?_
        by_cases hq : q < line.length
        · rw [List.getElem?_map, List.getElem?_range hq]
          simp [ints, hf q hq, List.getD, List.getElem?_eq_getElem (show q < (srcGo par (pairsGo line par 0) line).length by omega)]
        · rw [List.getElem?_eq_none (by rw [ints_length, hsl]; omega), List.getElem?_eq_none (by simp; omega)]
      · rw [if_neg (by simp)]
        unfold restored
        rw [hdv]
        exact VLe.refl _
    conv => whnf
    intro b6
    conv => whnf
    repeat (refine QCall.k0 (divideR cells line hc hl) ?_; conv => whnf)
    rw [hdv]
    refine cF rfl ?_
    conv => whnf
    refine make_region rfl mixed [0, 2, 3, 4] [1, 5, 7] [6, 8] [] (by show drawOK (opsAt Try.f76 _) _ = true; decide +kernel) ?_
    conv => whnf
    apply byKey3
    · intro key
      repeat' (first
        | exact trivial
        | (refine ⟨by decide +kernel, ?_⟩; conv => whnf)
        | (refine ⟨by rw [e4]; unfold AMAX; omega, fun n1 => ?_⟩; conv => whnf)
        | (refine ⟨⟨rfl, by omega, by omega⟩, fun n5 => ?_⟩; conv => whnf)
        | (refine fun (n7 : Nat) => ?_; conv => whnf)
        | (refine ⟨_, _, .here _, leOK, ?_⟩; conv => whnf)
        | (refine ⟨_, _, .there (.here _), leOK, ?_⟩; conv => whnf)
        | (refine ⟨_, _, .there (.there (.here _)), leOK, ?_⟩; conv => whnf)
        | (refine ⟨_, _, Turn.refl _ _, key n1 n5 n7⟩)
        | (refine ⟨_, _, Turn.perm ?_, key n1 n5 n7⟩; first | exact .refl _ | exact .swap _ _ _ | exact .cons _ (.swap _ _ _) | exact .trans (.swap _ _ _) (.cons _ (.swap _ _ _)) | exact .trans (.cons _ (.swap _ _ _)) (.swap _ _ _) | exact .trans (.swap _ _ _) (.trans (.cons _ (.swap _ _ _)) (.swap _ _ _)))
        | (refine And.intro ?_ ?_ <;> conv => whnf))
    · intro n1 n5 n7
      conv => whnf
      repeat ((first | refine QCall.k0 (compareR line par hl hp) ?_ | refine ⟨_, _, .here _, leOK, ?_⟩); conv => whnf)
      rw [repC_F, show (((ints line).length : Int)).toNat = line.length by omega]
      obtain ⟨PR, hPR⟩ : ∃ PR, PR = cmp (pairsGo line par 0) 0 := ⟨_, rfl⟩
      have hbd : ∀ z ∈ PR, 0 ≤ z.1 ∧ z.1 < line.length ∧ 0 ≤ z.2 ∧ z.2 < par.length := by
        rw [hPR]
        refine cmp_bd _ 0 (fun k hk => ?_) (by rw [pairsGo_length]; omega)
        have := pairsGo_bd line par 0 k hk
        omega
      have hPRl : PR.length ≤ line.length := by rw [hPR]; have := cmp_length (pairsGo line par 0) 0; rw [pairsGo_length] at this; exact this
      rw [← hPR]
      refine sloop rfl mixed [1, 2, 6, 10, 12, 13] [] (fun m r h => ∃ (i : Nat), r = [(1, [], .sl 1 none (ints par)), (2, [], .sl 1 none (ints line)), (6, [], .optr b6 0), (10, [], .optr n7 0), (12, [], .sl 2 none (PR.map encPr)), (13, [], .int .i64 i)] ∧ h = [(n7, .vec [.sl 1 (some n1) (ints line), .sl 1 none (ints D), .osl n5 0 line.length 1, .int .i64 (dist line par)]), (n5, .vec (rowsF line.length fun q => if q < i then .int .i64 (-1) else .int .i64 0))] ++ [(n1, .tok), (b6, .vec [.nilS, .nilS, .nilS, .int .i64 0])] ∧ m = line.length - i ∧ i ≤ line.length) ?_ ?_
      · conv => whnf
        refine ⟨_, 0, rfl, ?_, rfl, by omega⟩
        rw [show (rowsF line.length fun q => if q < 0 then AV.int .i64 (-1) else .int .i64 0) = rowsF line.length fun _ => .int .i64 0 from rowsF_congr fun q _ => if_neg (by omega)]
        rfl
      · rintro m rr hh ⟨i, rfl, rfl, rfl, hi⟩
        conv => whnf
        refine ⟨fun hf => ?_, fun hf => ?_⟩ <;> simp at hf
        · conv => whnf
          repeat ((first | refine ⟨gP_of ⟨by omega, by omega⟩, ?_⟩ | (refine ixo ?_ ?_; (focus omega)) | (refine stoF ?_ (.there (.here _)) ?_; (focus (first | omega | (simp <;> omega))))
                         | refine ⟨_, _, .head _, rfl, ?_⟩); conv => whnf)
          refine ⟨_, by omega, i + 1, rfl, ?_, rfl, by omega⟩
          rw [show (rowsF line.length fun j => if j = 0 + i * 1 then AV.int .i64 (-1) else if j < i then .int .i64 (-1) else .int .i64 0) = rowsF line.length fun q => if q < i + 1 then AV.int .i64 (-1) else .int .i64 0 from rowsF_congr fun q _ => by
            by_cases h1 : q = i
            · subst h1; rw [if_pos (by omega), if_pos (by omega)]
            · rw [if_neg (by omega)]
              by_cases h2 : q < i
              · rw [if_pos h2, if_pos (by omega)]
              · rw [if_neg h2, if_neg (by omega)]]
          rfl
        · have hil : i = line.length := by omega
          subst hil
          conv => whnf
          skip
          refine sloop rfl mixed [1, 2, 6, 10, 12, 14] [] (fun m r h => ∃ (i : Nat) (f : Nat → Int), r = [(1, [], .sl 1 none (ints par)), (2, [], .sl 1 none (ints line)), (6, [], .optr b6 0), (10, [], .optr n7 0), (12, [], .sl 2 none (PR.map encPr)), (14, [], .int .i64 i)] ∧ h = [(n7, .vec [.sl 1 (some n1) (ints line), .sl 1 none (ints D), .osl n5 0 line.length 1, .int .i64 (dist line par)]), (n5, .vec (rowsF line.length fun q => .int .i64 (f q)))] ++ [(n1, .tok), (b6, .vec [.nilS, .nilS, .nilS, .int .i64 0])] ∧ m = PR.length - i ∧ i ≤ PR.length ∧ wr par line f (PR.drop i) = wr par line (fun _ => -1) PR) ?_ ?_
          · conv => whnf
            refine ⟨_, 0, fun _ => -1, rfl, ?_, rfl, by omega, rfl⟩
            rw [show (rowsF line.length fun q => if q < line.length then AV.int .i64 (-1) else .int .i64 0) = rowsF line.length fun _ => .int .i64 (-1) from rowsF_congr fun q hq => if_pos hq]
            try rfl
          · rintro m rr hh ⟨i, f, rfl, rfl, rfl, hi, hw⟩
            conv => whnf
            refine ⟨fun hf => ?_, fun hf => ?_⟩ <;> simp at hf
            · obtain ⟨z, hz⟩ := get_lt hf
              obtain ⟨hz1, hz2, hz3, hz4⟩ := hbd z (List.mem_of_getElem? hz)
              rw [drop_cons hz, wr] at hw
              have hx1 : line[z.1.toNat]? = some (line.getD z.1.toNat 0) := by rw [getD_lt (by omega), List.getElem?_eq_getElem (by omega)]
              have hx2 : par[z.2.toNat]? = some (par.getD z.2.toNat 0) := by rw [getD_lt (by omega), List.getElem?_eq_getElem (by omega)]
              conv => whnf
              repeat ((first | refine ix (by assumption) ?_ | (refine ixn z.1.toNat (by omega) hx1 ?_) | (refine ixn z.2.toNat (by omega) hx2 ?_) | refine And.intro (by show drawOK (opsAt Try.f76 _) _ = true; decide +kernel) ?_); conv => whnf)
              refine ⟨fun he => ?_, fun he => ?_⟩
              · have he : line.getD z.1.toNat 0 = par.getD z.2.toNat 0 := by simpa [-List.getD_eq_getElem?_getD] using he
                conv => whnf
                repeat ((first | refine ⟨gP_of ⟨by omega, by omega⟩, ?_⟩ | refine ix (by assumption) ?_ | (refine ixog ?_ ?_; (focus (conv => whnf; skip)); (focus (first | (show 0 ≤ _ ∧ _ < _; omega) | (intro hq; show 0 ≤ _ ∧ _ < _; omega))))
                               | (refine stoF ?_ (.there (.here _)) ?_; (focus (first | omega | (simp <;> omega)))) | refine ⟨_, _, .head _, rfl, ?_⟩ | refine And.intro (by show drawOK (opsAt Try.f76 _) _ = true; decide +kernel) ?_); conv => whnf)
                refine ⟨_, by omega, i + 1, _, rfl, ?_, rfl, by omega, hw⟩
                rw [show (rowsF line.length fun j => if j = 0 + z.1.toNat * 1 then AV.int .i64 z.2 else .int .i64 (f j)) = rowsF line.length fun q => AV.int .i64 (if q = z.1.toNat ∧ line.getD z.1.toNat 0 = par.getD z.2.toNat 0 then z.2 else f q) from rowsF_congr fun q _ => by
                  by_cases h1 : q = z.1.toNat
                  · rw [if_pos (by omega), if_pos ⟨h1, he⟩]
                  · rw [if_neg (by omega), if_neg (fun h => h1 h.1)]]
                rfl
              · have he : ¬ line.getD z.1.toNat 0 = par.getD z.2.toNat 0 := by simpa [-List.getD_eq_getElem?_getD] using he
                conv => whnf
                repeat (refine ⟨gP_of ⟨by omega, by omega⟩, ?_⟩; conv => whnf)
                refine ⟨_, by omega, i + 1, f, rfl, rfl, rfl, by omega, ?_⟩
                rw [← hw]
                congr 1
                funext q
                rw [if_neg (fun h => he h.2)]
            · rw [drop_nil (by omega), wr] at hw
              conv => whnf
              repeat ((first | (refine ⟨_, _, .tail _ (.tail _ (.tail _ (.head _))), rfl, ?_⟩) | (refine ⟨_, _, .there (.there (.there (.here _))), leOK, ?_⟩) | refine ⟨_, _, .head _, rfl, ?_⟩); conv => whnf)
              refine ⟨n5, _, _, some n1, rfl, .there (.here _), fun q hq => ?_⟩
              rw [← wr_src par line q hq, ← hPR, hw]
end Go.Abs.Wall
set_option maxRecDepth 100000
set_option linter.unusedVariables false
namespace Go.Abs.Wall
open Go Go.Abs Go.Proofs
/-! ### theory: positions -/
theorem cellPos_get (i : Int) : ∀ (n : Nat) (k : Int) (x : Nat) (p : Pos), (cellPos i k n)[x]? = some p ↔ (x < n ∧ p = (i, k + x))
  | 0, k, x, p => by simp [cellPos]
  | n + 1, k, 0, p => by simp [cellPos]; exact ⟨fun h => h.symm, fun h => h.symm⟩
  | n + 1, k, x + 1, p => by
    rw [cellPos, List.getElem?_cons_succ, cellPos_get i n (k + 1) x p]
    have e : k + 1 + (x : Int) = k + ((x + 1 : Nat) : Int) := by omega
    rw [e]
    exact ⟨fun ⟨h1, h2⟩ => ⟨by omega, h2⟩, fun ⟨h1, h2⟩ => ⟨by omega, h2⟩⟩
theorem posOf_head : ∀ (cs : List Cel) (i : Int), (∀ c ∈ cs, 0 ≤ c.mx) → (posOf cs i)[0]? = some (i, 0)
  | [], i, _ => rfl
  | c :: cs, i, h => by
    have := h c (by simp)
    rw [posOf, List.getElem?_append_left (by rw [cellPos_length]; omega), cellPos_get]
    exact ⟨by omega, by simp⟩
/-- what stands at a place of the list of positions -/
def PosAt (cs : List Cel) (i : Int) (ps : List Pos) (x : Nat) (p : Pos) : Prop :=
  (p = (i + cs.length, 0) ∧ x + 1 = ps.length) ∨
  ∃ (j : Nat) (c : Cel), cs[j]? = some c ∧ p.1 = i + j ∧ 0 ≤ p.2 ∧ p.2 ≤ c.mx ∧ (∃ y : Nat, x < y ∧ ps[y]? = some (p.1 + 1, 0)) ∧ (p.2 < c.mx → ps[x + 1]? = some (p.1, p.2 + 1))
theorem posOf_at : ∀ (cs : List Cel) (i : Int), (∀ c ∈ cs, 0 ≤ c.mx) → ∀ (x : Nat) (p : Pos), (posOf cs i)[x]? = some p → PosAt cs i (posOf cs i) x p
  | [], i, _, x, p, h => by
    cases x with
    | zero => simp [posOf] at h; subst h; exact .inl ⟨by simp, rfl⟩
    | succ x => simp [posOf] at h
  | c :: cs, i, hm, x, p, h => by
    have hc := hm c (by simp)
    have hm' : ∀ c ∈ cs, 0 ≤ c.mx := fun d hd => hm d (by simp [hd])
    have ih := posOf_at cs (i + 1) hm'
    have hl := cellPos_length i (c.mx + 1).toNat 0
    have hR : ∀ y, (posOf (c :: cs) i)[(c.mx + 1).toNat + y]? = (posOf cs (i + 1))[y]? := by
      intro y
      rw [posOf, List.getElem?_append_right (by omega)]
      congr 1; omega
    have hlen : (posOf (c :: cs) i).length = (c.mx + 1).toNat + (posOf cs (i + 1)).length := by rw [posOf, List.length_append, hl]
    by_cases hx : x < (c.mx + 1).toNat
    · have h' := h
      rw [posOf, List.getElem?_append_left (by omega), cellPos_get] at h'
      obtain ⟨h1, rfl⟩ := h'
      refine .inr ⟨0, c, rfl, by simp, by simp only; omega, by simp only; omega, ⟨(c.mx + 1).toNat + 0, by omega, ?_⟩, fun hlt => ?_⟩
      · rw [hR, posOf_head cs (i + 1) hm']
      · simp only at hlt
        rw [posOf, List.getElem?_append_left (by omega), cellPos_get]
        exact ⟨by omega, by simp only; congr 1⟩
    · obtain ⟨y, rfl⟩ : ∃ y, x = (c.mx + 1).toNat + y := ⟨x - (c.mx + 1).toNat, by omega⟩
      rw [hR] at h
      rcases ih y p h with ⟨rfl, h2⟩ | ⟨j, d, h1, h2, h3, h4, ⟨z, h5, h6⟩, h7⟩
      · refine .inl ⟨?_, by omega⟩
        simp only [List.length_cons]; exact congrArg (fun z => (z, (0 : Int))) (by omega)
      · refine .inr ⟨j + 1, d, by simpa using h1, by rw [h2]; omega, h3, h4, ⟨(c.mx + 1).toNat + z, by omega, by rw [hR]; exact h6⟩, fun hlt => ?_⟩
        rw [show (c.mx + 1).toNat + y + 1 = (c.mx + 1).toNat + (y + 1) from by omega, hR]
        exact h7 hlt
theorem posOf_fst : ∀ (cs : List Cel) (i : Int), ∀ p ∈ posOf cs i, i ≤ p.1
  | [], i, p, h => by simp [posOf] at h; subst h; simp
  | c :: cs, i, p, h => by
    rw [posOf, List.mem_append] at h
    rcases h with h | h
    · obtain ⟨x, hx⟩ := List.mem_iff_getElem?.1 h
      rw [cellPos_get] at hx
      rw [hx.2]; simp
    · have := posOf_fst cs (i + 1) p h; omega
theorem posOf_nodup : ∀ (cs : List Cel) (i : Int), (posOf cs i).Nodup
  | [], i => by simp [posOf]
  | c :: cs, i => by
    rw [posOf, List.nodup_append]
    refine ⟨?_, posOf_nodup cs (i + 1), ?_⟩
    · rw [List.nodup_iff_pairwise_ne, List.pairwise_iff_getElem]
      intro a b ha hb hab e
      have h1 := (cellPos_get i (c.mx + 1).toNat 0 a _).1 (List.getElem?_eq_getElem ha)
      have h2 := (cellPos_get i (c.mx + 1).toNat 0 b _).1 (List.getElem?_eq_getElem hb)
      rw [h1.2, h2.2] at e
      have := (Prod.mk.inj e).2
      omega
    · intro a ha b hb e
      subst e
      have h2 := posOf_fst cs (i + 1) a hb
      obtain ⟨x, hx⟩ := List.mem_iff_getElem?.1 ha
      rw [cellPos_get] at hx
      rw [hx.2] at h2
      simp only at h2; omega
theorem lookA_setA {κ ν : Type} [DecidableEq κ] (k k' : κ) (v : ν) : ∀ (M : List (κ × ν)), lookA k (setA k' v M) = if k = k' then some v else lookA k M
  | [] => by simp [setA, lookA]
  | (a, u) :: M => by
    unfold setA
    by_cases h : k' = a
    · subst h
      rw [if_pos rfl, lookA, lookA]
      split <;> rfl
    · rw [if_neg h, lookA, lookA, lookA_setA k k' v M]
      by_cases h2 : k = a
      · subst h2
        rw [if_pos rfl, if_pos rfl, if_neg (fun e => h e.symm)]
      · rw [if_neg h2, if_neg h2]
theorem idxGo_notin (p : Pos) : ∀ (l : List Pos) (k : Int) (M : Idx), p ∉ l → lookA p (idxGo l k M) = lookA p M
  | [], k, M, _ => rfl
  | q :: l, k, M, h => by
    rw [idxGo, idxGo_notin p l (k + 1) _ (fun hm => h (by simp [hm])), lookA_setA, if_neg (fun e => h (by simp [e]))]
theorem idxGo_look (p : Pos) : ∀ (l : List Pos) (k : Int) (M : Idx) (x : Nat), l.Nodup → l[x]? = some p → lookA p (idxGo l k M) = some (k + x)
  | [], k, M, x, _, h => by cases h
  | q :: l, k, M, 0, hn, h => by
    cases h
    rw [List.nodup_cons] at hn
    rw [idxGo, idxGo_notin p l (k + 1) _ hn.1, lookA_setA, if_pos rfl]; simp
  | q :: l, k, M, x + 1, hn, h => by
    rw [List.nodup_cons] at hn
    rw [idxGo, idxGo_look p l (k + 1) _ x hn.2 (by simpa using h)]
    congr 1; omega
theorem idxOf_look {p : Pos} {l : List Pos} {x : Nat} (hn : l.Nodup) (h : l[x]? = some p) : lookA p (idxOf l) = some (x : Int) := by
  unfold idxOf; rw [idxGo_look p l 0 [] x hn h]; simp
/-- positions of cells, as the search has them -/
structure PosT (cells : List Cel) (ps : List Pos) : Prop where
  nodup : ps.Nodup
  len : 0 < ps.length
  last : ps[ps.length - 1]? = some ((cells.length : Int), 0)
  zero : ps[0]? = some (0, 0)
  each : ∀ (x : Nat) (p : Pos), ps[x]? = some p → PosAt cells 0 ps x p
theorem posOf_last : ∀ (cs : List Cel) (i : Int), (posOf cs i)[(posOf cs i).length - 1]? = some (i + cs.length, 0) ∧ 0 < (posOf cs i).length
  | [], i => by simp [posOf]
  | c :: cs, i => by
    have ih := posOf_last cs (i + 1)
    rw [posOf, List.length_append]
    refine ⟨?_, by omega⟩
    rw [List.getElem?_append_right (by omega), show (cellPos i 0 (c.mx + 1).toNat).length + (posOf cs (i + 1)).length - 1 - (cellPos i 0 (c.mx + 1).toNat).length = (posOf cs (i + 1)).length - 1 from by omega, ih.1]
    simp only [List.length_cons]; exact congrArg (fun z => some (z, (0 : Int))) (by omega)
theorem posT (cells : List Cel) (h : ∀ c ∈ cells, 0 ≤ c.mx) : PosT cells (posOf cells 0) := by
  have hl := posOf_last cells 0
  exact ⟨posOf_nodup cells 0, hl.2, by simpa using hl.1, posOf_head cells 0 h, fun x p hx => posOf_at cells 0 h x p hx⟩
theorem PosT.ok {cells : List Cel} {ps : List Pos} (h : PosT cells ps) (hl : ps.length ≤ 1048576) : PosOK cells ps := by
  refine ⟨⟨h.len, hl⟩, fun x p hx => ?_⟩
  rcases h.each x p hx with ⟨rfl, h2⟩ | ⟨j, c, h1, h2, h3, h4, ⟨y, h5, h6⟩, h7⟩
  · exact ⟨by simp only; omega, by simp, by simp, fun hh => by simp at hh, fun hh => by simp at hh⟩
  · have hj := (List.getElem?_eq_some_iff.1 h1).1
    refine ⟨by omega, h3, by omega, fun _ => ⟨y, idxOf_look h.nodup h6, h5, (List.getElem?_eq_some_iff.1 h6).1⟩, fun _ hlt => ?_⟩
    rw [show p.1.toNat = j from by omega] at hlt
    have e : cells.getD j ⟨0, 0, []⟩ = c := by simp [List.getD, h1]
    rw [e] at hlt
    exact (List.getElem?_eq_some_iff.1 (h7 hlt)).1
end Go.Abs.Wall
set_option maxRecDepth 100000
set_option linter.unusedVariables false
namespace Go.Abs.Wall
open Go Go.Abs Go.Proofs
/-! ### theory: stretches and acceptance -/
/-- m signs of l may be the next ones of a cell that has k already, and what follows is right -/
def St (c : Cel) (ok : List Int → Bool) (k : Int) (l : List Int) (m : Nat) : Prop :=
  c.mn ≤ k + m ∧ k + m ≤ c.mx ∧ m ≤ l.length ∧ (∀ s ∈ l.take m, allows c s = true) ∧ ok (l.drop m) = true
theorem St.zero {c : Cel} {ok : List Int → Bool} {k : Int} {l : List Int} : St c ok k l 0 ↔ (c.mn ≤ k ∧ k ≤ c.mx ∧ ok l = true) := by
  unfold St; simp
theorem St.succ {c : Cel} {ok : List Int → Bool} {k : Int} {s : Int} {l : List Int} {m : Nat} : St c ok k (s :: l) (m + 1) ↔ (allows c s = true ∧ St c ok (k + 1) l m) := by
  unfold St
  simp only [List.take_succ_cons, List.drop_succ_cons, List.length_cons, List.mem_cons, forall_eq_or_imp]
  constructor
  · rintro ⟨h1, h2, h3, ⟨h4, h5⟩, h6⟩; exact ⟨h4, by omega, by omega, by omega, h5, h6⟩
  · rintro ⟨h4, h1, h2, h3, h5, h6⟩; exact ⟨by omega, by omega, by omega, ⟨h4, h5⟩, h6⟩
theorem St.nil {c : Cel} {ok : List Int → Bool} {k : Int} {m : Nat} (h : St c ok k [] m) : m = 0 := by have := h.2.2.1; simpa using this
theorem mostGo_spec (c : Cel) (ok : List Int → Bool) : ∀ (l : List Int) (n best : Int), n ≤ c.mx → (mostGo c ok l n best = best ∧ ∀ m, ¬ St c ok n l m) ∨ ∃ m : Nat, mostGo c ok l n best = n + m ∧ St c ok n l m ∧ ∀ m', St c ok n l m' → m' ≤ m
  | [], n, best, hn => by
    unfold mostGo
    split
    · rename_i h
      exact .inr ⟨0, by simp, St.zero.2 ⟨h.1, hn, h.2⟩, fun m' h' => by have := h'.nil; omega⟩
    · rename_i h
      refine .inl ⟨rfl, fun m h' => h ?_⟩
      have := h'.nil; subst this
      have := St.zero.1 h'; exact ⟨this.1, this.2.2⟩
  | s :: t, n, best, hn => by
    unfold mostGo
    by_cases h0 : c.mn ≤ n ∧ ok (s :: t) = true
    · rw [if_pos h0]
      have hz : St c ok n (s :: t) 0 := St.zero.2 ⟨h0.1, hn, h0.2⟩
      split
      · rename_i h1
        rcases mostGo_spec c ok t (n + 1) n h1.1 with ⟨e, h⟩ | ⟨m, e, h, hm⟩
        · refine .inr ⟨0, by rw [e]; simp, hz, fun m' h' => ?_⟩
          cases m' with
          | zero => exact Nat.le_refl _
          | succ m' => exact absurd (St.succ.1 h').2 (h m')
        · refine .inr ⟨m + 1, by rw [e]; omega, St.succ.2 ⟨h1.2, h⟩, fun m' h' => ?_⟩
          cases m' with
          | zero => omega
          | succ m' => have := hm m' (St.succ.1 h').2; omega
      · rename_i h1
        refine .inr ⟨0, by simp, hz, fun m' h' => ?_⟩
        cases m' with
        | zero => exact Nat.le_refl _
        | succ m' => have := St.succ.1 h'; exact absurd ⟨by have := this.2.2.1; omega, this.1⟩ h1
    · rw [if_neg h0]
      have hz : ¬ St c ok n (s :: t) 0 := fun h => h0 ⟨(St.zero.1 h).1, (St.zero.1 h).2.2⟩
      split
      · rename_i h1
        rcases mostGo_spec c ok t (n + 1) best h1.1 with ⟨e, h⟩ | ⟨m, e, h, hm⟩
        · refine .inl ⟨e, fun m' h' => ?_⟩
          cases m' with
          | zero => exact hz h'
          | succ m' => exact h m' (St.succ.1 h').2
        · refine .inr ⟨m + 1, by rw [e]; omega, St.succ.2 ⟨h1.2, h⟩, fun m' h' => ?_⟩
          cases m' with
          | zero => omega
          | succ m' => have := hm m' (St.succ.1 h').2; omega
      · rename_i h1
        refine .inl ⟨rfl, fun m' h' => ?_⟩
        cases m' with
        | zero => exact hz h'
        | succ m' => have := St.succ.1 h'; exact absurd ⟨by have := this.2.2.1; omega, this.1⟩ h1
theorem most_spec (c : Cel) (ok : List Int → Bool) (l : List Int) : (most c ok l = -1 ∧ ∀ m, ¬ St c ok 0 l m) ∨ ∃ m : Nat, most c ok l = m ∧ St c ok 0 l m ∧ ∀ m', St c ok 0 l m' → m' ≤ m := by
  unfold most
  split
  · rename_i h
    rcases mostGo_spec c ok l 0 (-1) h with h | ⟨m, h1, h2⟩
    · exact .inl h
    · exact .inr ⟨m, by omega, h2⟩
  · rename_i h
    exact .inl ⟨rfl, fun m h' => by have := h'.2.1; omega⟩
theorem fitB_cons {c : Cel} {cs : List Cel} {l : List Int} : fitB (c :: cs) l = true ↔ ∃ m, St c (fitB cs) 0 l m := by
  unfold fitB
  rw [decide_eq_true_eq]
  rcases most_spec c (fitB cs) l with ⟨e, h⟩ | ⟨m, e, h, hm⟩
  · exact ⟨fun h' => by omega, fun ⟨m, h'⟩ => absurd h' (h m)⟩
  · exact ⟨fun _ => ⟨m, h⟩, fun _ => by omega⟩
theorem divS_length : ∀ (cs : List Cel) (l : List Int) (k : Int), fitB cs l = true → (divS cs l k).length = l.length
  | [], l, k, h => by simp [fitB] at h; simp [divS, h]
  | c :: cs, l, k, h => by
    have h0 := h
    rcases most_spec c (fitB cs) l with ⟨e, hn⟩ | ⟨m, e, h1, hm⟩
    · obtain ⟨m, h'⟩ := fitB_cons.1 h0; exact absurd h' (hn m)
    · rw [divS, e, Int.toNat_natCast, List.length_append, List.length_replicate, divS_length cs _ _ h1.2.2.2.2, List.length_drop]
      have := h1.2.2.1; omega
def acc : List Cel → Int → List Int → Bool
  | [], _, w => w.isEmpty
  | c :: cs, k, [] => decide (c.mn ≤ k) && acc cs 0 []
  | c :: cs, k, s :: w => (decide (c.mn ≤ k) && acc cs 0 (s :: w)) || (decide (k < c.mx) && allows c s && acc (c :: cs) (k + 1) w)
termination_by cs _ w => cs.length + w.length
theorem acc_st (c : Cel) (cs : List Cel) : ∀ (w : List Int) (k : Int), k ≤ c.mx → (acc (c :: cs) k w = true ↔ ∃ m, St c (acc cs 0) k w m)
  | [], k, hk => by
    rw [acc]
    constructor
    · intro h
      simp only [Bool.and_eq_true, decide_eq_true_eq] at h
      exact ⟨0, St.zero.2 ⟨h.1, hk, h.2⟩⟩
    · rintro ⟨m, h⟩
      have := h.nil; subst this
      have := St.zero.1 h
      simp [this]
  | s :: w, k, hk => by
    rw [acc]
    simp only [Bool.or_eq_true, Bool.and_eq_true, decide_eq_true_eq]
    constructor
    · rintro (h | ⟨⟨h1, h2⟩, h3⟩)
      · exact ⟨0, St.zero.2 ⟨h.1, hk, h.2⟩⟩
      · obtain ⟨m, hm⟩ := (acc_st c cs w (k + 1) (by omega)).1 h3
        exact ⟨m + 1, St.succ.2 ⟨h2, hm⟩⟩
    · rintro ⟨m, h⟩
      cases m with
      | zero => exact .inl ⟨(St.zero.1 h).1, (St.zero.1 h).2.2⟩
      | succ m =>
        have h := St.succ.1 h
        have h2 := h.2.2.1
        exact .inr ⟨⟨by omega, h.1⟩, (acc_st c cs w (k + 1) (by omega)).2 ⟨m, h.2⟩⟩
theorem fitB_acc : ∀ (cs : List Cel) (w : List Int), (∀ c ∈ cs, 0 ≤ c.mx) → fitB cs w = acc cs 0 w
  | [], w, _ => by rw [fitB, acc]
  | c :: cs, w, h => by
    have ih : fitB cs = acc cs 0 := funext fun w => fitB_acc cs w fun d hd => h d (by simp [hd])
    rw [Bool.eq_iff_iff, fitB_cons, acc_st c cs w 0 (h c (by simp)), ih]
end Go.Abs.Wall
set_option maxRecDepth 100000
set_option linter.unusedVariables false
namespace Go.Abs.Wall
open Go Go.Abs Go.Proofs
/-! ### walk -/
def wkGo (rec : List Int → List Int → List Int → List Rst → Option (List Rst × Bool)) (F : Nat) (cells : List Cel) (ps : List Pos) (par set row line : List Int) : List Int → List Rst → Option (List Rst × Bool)
  | [], out => some (out, true)
  | s :: ss, out => match afterM F cells ps set s with
    | none => none
    | some nx => if nx = [] then wkGo rec F cells ps par set row line ss out else match extM par row s with
      | none => none
      | some row2 => match rec nx row2 (line ++ [s]) out with
        | none => none
        | some (out2, false) => some (out2, false)
        | some (out2, true) => wkGo rec F cells ps par set row line ss out2
def walkM (n : Int) (F : Nat) (cells : List Cel) (ps : List Pos) (par : List Int) (rest : List (List (List Int))) (most changes : Int) : Nat → List Int → List Int → List Int → Int → List Rst → Option (List Rst × Bool)
  | 0, _, _, _, _, _ => none
  | f + 1, set, row, line, left, out =>
    if setOK F set = false ∨ 60 < line.length ∨ 1048576 < row.length ∨ row = [] ∨ 1048576 < out.length ∨ left < 0 ∨ 1048576 < left then none else
    match boundM rest set row left with
    | none => none
    | some bd => if changes < bd then some (out, true) else
      if left = 0 then
        (if (ps.length - 1 : Int) ∈ set ∧ row.getD (row.length - 1) 0 = changes then some (out ++ [restored cells par line], decide ((out.length : Int) + 1 < most)) else some (out, true))
      else wkGo (fun set2 row2 line2 out2 => walkM n F cells ps par rest most changes f set2 row2 line2 (left - 1) out2) F cells ps par set row line (upto n) out
theorem yieldR {n : Int} {cells : List Cel} {par line : List Int} {pv rv ov : AV} {T : Heap} {b km ob : Nat} {ps : List Pos} {out : List Rst} {most : Int} {K : AV → Heap → Prop} (hc : CelsOK cells) (hp : par.length ≤ 60) (hl : line.length ≤ 60) (ho : out.length ≤ 1048576) (hov : OV out ov T)
    (hk : ∀ q, K (.bool (decide ((out.length : Int) + 1 < most))) (sh n cells par pv ps rv b km ++ ([(ob, .vec [.sl 4 (some q) ((out ++ [restored cells par line]).map encRst)])] ++ [(q, .tok)]))) :
    ACalls Try.prog 86 [.sl 1 none (ints line), .optr ob 0, .iptr [.optr b 0], .iptr [.int .i64 most]] (sh n cells par pv ps rv b km ++ ([(ob, .vec [ov])] ++ T)) K := by
  rw [← List.append_assoc]
  exact yieldC hc hp hl ho hov (fun q => by rw [List.append_assoc]; exact hk q)
theorem ACalls.tok {P : Program} {f : FuncId} {q : Nat} {H : Heap} {args args' : List AV} {R : AV → Heap → Prop} (h : ACalls P f args' H R) (hl : VsLe args args') : ACalls P f args ([(q, Ob.tok)] ++ H) R :=
  ACalls.args (ACalls.pre h (fun k o hm => List.mem_append_right _ hm) (fun hnd => by
    simp only [keys, List.map_append, List.nodup_append] at hnd ⊢
    exact hnd.2.1)) hl
def c85 : Cfg := ⟨[0, 1, 2, 3, 4, 5, 6, 14, 15, 16, 23, 25, 49, 50, 51, 58, 75], [], [], [44], [], []⟩
theorem walk {n : Int} {cells : List Cel} {par : List Int} {pq rq : Nat} {b km ob : Nat} {ps : List Pos} {rest : List (List (List Int))} {F : Nat} {most changes : Int} (hn0 : 0 ≤ n) (hn : n ≤ 1048576) (hc : CelsOK cells) (hp : par.length ≤ 60) (hps : ps.length ≤ 1048576) :
    ∀ (f : Nat) (set row line : List Int) (left : Int) (out out' : List Rst) (r0 : Bool) (ov : AV) (T : Heap) (K : AV → Heap → Prop), walkM n F cells ps par rest most changes f set row line left out = some (out', r0) → OV out ov T →
    (∀ ov' T', OV out' ov' T' → K (.bool r0) (sh n cells par (.sl 2 (some pq) (ps.map encPos)) ps (.sl 1 (some rq) (rest.map encTab)) b km ++ ([(ob, Ob.vec [ov'])] ++ T'))) →
    ACalls Try.prog 85 [.optr b 0, .sl 1 none (ints set), .sl 1 none (ints row), .sl 1 none (ints line), .int .i64 changes, .int .i64 left, .fn 86 [.optr ob 0, .iptr [.optr b 0], .iptr [.int .i64 most]]] (sh n cells par (.sl 2 (some pq) (ps.map encPos)) ps (.sl 1 (some rq) (rest.map encTab)) b km ++ ([(ob, Ob.vec [ov])] ++ T)) K
  | 0, set, row, line, left, out, out', r0, ov, T, K, h, _, _ => by cases h
  | f + 1, set, row, line, left, out, out', r0, ov, T, K, h, hov, hK => by
    have ih := @walk n cells par pq rq b km ob ps rest F most changes hn0 hn hc hp hps f
    rw [walkM] at h
    split at h
    · cases h
    rename_i hck
    simp only [not_or, Bool.not_eq_false, Nat.not_lt, Int.not_lt] at hck
    obtain ⟨hok, hll, hrl, hrne, hol, hl0, hl1⟩ := hck
    unfold setOK at hok
    simp only [Bool.and_eq_true, decide_eq_true_eq, List.all_eq_true] at hok
    obtain ⟨⟨hne, hsl⟩, hsb⟩ := hok
    split at h
    · cases h
    rename_i bd hbd
    suffices hh : ACalls Try.prog 85 [.optr b 0, .sl 1 none (ints set), .sl 1 none (ints row), .sl 1 none (ints line), .int .i64 changes, .int .i64 left, .fn 86 [.optr ob 0, .iptr [.optr b 0], .iptr [.int .i64 most]]] (sh n cells par (.sl 2 (some pq) (ps.map encPos)) ps (.sl 1 (some rq) (rest.map encTab)) b km ++ ([(ob, Ob.vec [ov])] ++ T))
        (fun v h' => v = .bool r0 ∧ ∃ ov' T', OV out' ov' T' ∧ h' = sh n cells par (.sl 2 (some pq) (ps.map encPos)) ps (.sl 1 (some rq) (rest.map encTab)) b km ++ ([(ob, Ob.vec [ov'])] ++ T')) by
      exact ACalls.mono (by rintro v h' ⟨rfl, ov', T', ho, rfl⟩; exact hK ov' T' ho) hh
    have hil := ints_length row
    have hrpos : 0 < row.length := List.length_pos_iff.2 hrne
    have hlast : row[row.length - 1]? = some (row.getD (row.length - 1) 0) := by
      rw [getD_lt (show row.length - 1 < row.length by omega), List.getElem?_eq_getElem (by omega)]
    refine fcalls (F := Try.f85) c85 rfl rfl rfl mixed rfl fun X => ?_
    conv => whnf
    repeat ((refine QCall.fr (T := [(ob, Ob.vec [ov])] ++ T) (bound (by omega) hrl hbd) ?_); conv => whnf)
    split at h
    · rename_i hlt
      cases h
      refine cT (by simpa using hlt) ?_
      conv => whnf
      exact ⟨rfl, ov, T, hov, rfl⟩
    · rename_i hlt
      refine cF (by simpa using hlt) ?_
      conv => whnf
      split at h
      · rename_i hl
        subst hl
        refine cT rfl ?_
        conv => whnf
        repeat ((first | refine ⟨gP_of ⟨by omega, by omega⟩, ?_⟩ | (refine QCall.fr (T := [(ob, Ob.vec [ov])] ++ T) (lastC n cells par .nilS _ b km pq ps (idxOf ps) hps) ?_)
                       | refine QCall.k0 (containsI set _ (by unfold LMAX; omega)) ?_ | (refine ixn (row.length - 1) (by omega) hlast ?_)); conv => whnf)
        refine ⟨fun hb => ?_, fun hb => ?_⟩
        · conv => whnf
          refine yieldR hc hp hll hol hov fun q => ?_
          conv => whnf
          have h1 : set.contains (ps.length - 1 : Int) = true ∧ row.getD (row.length - 1) 0 = changes := by simpa [-List.getD_eq_getElem?_getD] using hb
          rw [if_pos ⟨List.contains_iff_mem.1 h1.1, h1.2⟩] at h
          cases h
          exact ⟨by rw [hb]; rfl, _, _, .inr ⟨q, rfl, rfl⟩, rfl⟩
        · conv => whnf
          rw [if_neg (fun h1 => hb (by simp [-List.getD_eq_getElem?_getD, h1.1, h1.2]))] at h
          cases h
          exact ⟨by simp only [Bool.or_false]; congr 1; cases hh : (!set.contains (ps.length - 1 : Int) || !decide (row.getD (row.length - 1) 0 = changes)) with | true => rfl | false => exact absurd hh hb, ov, T, hov, rfl⟩
      · rename_i hl
        refine cF (by simpa using hl) ?_
        conv => whnf
        repeat (refine ⟨_, _, .head _, rfl, ?_⟩; conv => whnf)
        refine sloop rfl mixed [0, 1, 2, 3, 4, 5, 6, 49, 50] [] (fun m r h => ∃ (i : Nat) (o : List Rst) (ov : AV) (T : Heap), r = [(0, [], .optr b 0), (1, [], .sl 1 none (ints set)), (2, [], .sl 1 none (ints row)), (3, [], .sl 1 none (ints line)), (4, [], .int .i64 changes), (5, [], .int .i64 left), (6, [], .fn 86 [.optr ob 0, .iptr [.optr b 0], .iptr [.int .i64 most]]), (49, [], .int .i64 n), (50, [], .int .i64 i)] ∧ h = sh n cells par (.sl 2 (some pq) (ps.map encPos)) ps (.sl 1 (some rq) (rest.map encTab)) b km ++ ([(ob, Ob.vec [ov])] ++ T) ∧ m = n.toNat - i ∧ i ≤ n ∧ OV o ov T ∧ wkGo (fun set2 row2 line2 out2 => walkM n F cells ps par rest most changes f set2 row2 line2 (left - 1) out2) F cells ps par set row line ((upto n).drop i) o = some (out', r0)) ?_ ?_
        · conv => whnf
          exact ⟨_, 0, out, ov, T, rfl, rfl, rfl, by omega, hov, h⟩
        · rintro m rr hh ⟨i, o, ov, T, rfl, rfl, rfl, hi, hov, he⟩
          conv => whnf
          refine ⟨fun hf => ?_, fun hf => ?_⟩ <;> simp at hf
          · have hx := upto_get (n := n) hf
            rw [drop_cons hx, wkGo] at he
            split at he
            · cases he
            rename_i nx hnx
            conv => whnf
            refine afterF (T := [(ob, Ob.vec [ov])] ++ T) hc hps (by omega) hnx ?_
            by_cases hz : nx = []
            · rw [if_pos hz] at he
              rw [show setV nx = .nilS from by unfold setV; rw [if_pos hz]]
              conv => whnf
              refine cT rfl ?_
              conv => whnf
              repeat (refine ⟨gP_of ⟨by omega, by omega⟩, ?_⟩; conv => whnf)
              exact ⟨_, by omega, i + 1, o, ov, T, rfl, rfl, rfl, by omega, hov, he⟩
            · rw [if_neg hz] at he
              rw [show setV nx = .sl 1 none (ints nx) from by unfold setV; rw [if_neg hz]]
              split at he
              · cases he
              rename_i row2 hrow2
              conv => whnf
              refine ⟨by simpa [gP, ints] using hz, ?_⟩
              conv => whnf
              refine cF rfl ?_
              conv => whnf
              repeat ((refine QCall.fr (T := [(ob, Ob.vec [ov])] ++ T) (extend (by omega) hrow2) ?_); conv => whnf)
              refine ACalls.mono ?_ (ACalls.frame (cloneT line (by omega)) _)
              rintro v' h' ⟨h1, hcl, rfl⟩
              split at he
              · cases he
              · rename_i o2 hrec
                rcases hcl with ⟨rfl, rfl, rfl⟩ | ⟨q, rfl, rfl⟩
                · conv => whnf
                  repeat ((first | refine ⟨gP_of ⟨by omega, by omega⟩, ?_⟩ | (refine ⟨(by show 1 ≤ 4294967296; omega), fun q' => ?_⟩)); conv => whnf)
                  refine ACalls.tok (ih nx row2 ([] ++ [(i : Int)]) (left - 1) o o2 _ ov T _ hrec hov ?_) (.cons (VLe.refl _) (.cons (VLe.refl _) (.cons (VLe.refl _) (.cons VLe.sl (VsLe.refl _)))))
                  refine fun ov' T' hov' => ?_
                  conv => whnf
                  first
                    | (refine cT rfl ?_
                       conv => whnf
                       cases he
                       exact ⟨rfl, ov', T', hov', rfl⟩)
                    | (refine cF rfl ?_
                       conv => whnf
                       repeat ((first | refine ⟨gP_of ⟨by omega, by omega⟩, ?_⟩ | intro (nb : Nat)); conv => whnf)
                       exact ⟨_, by omega, i + 1, o2, ov', T', rfl, rfl, rfl, by omega, hov', he⟩)
                · conv => whnf
                  repeat ((first | refine ⟨gP_of ⟨by omega, by omega⟩, ?_⟩ | (refine ⟨(by rw [List.length_append, ints_length]; show _ + 1 ≤ 4294967296; omega), fun q' => ⟨_, .here _, ?_⟩⟩)); conv => whnf)
                  rw [show ints line ++ [[AV.int .i64 (i : Int)]] = ints (line ++ [(i : Int)]) from by simp [ints]]
                  refine ACalls.tok (ih nx row2 (line ++ [(i : Int)]) (left - 1) o o2 _ ov T _ hrec hov ?_) (.cons (VLe.refl _) (.cons (VLe.refl _) (.cons (VLe.refl _) (.cons VLe.sl (VsLe.refl _)))))
                  refine fun ov' T' hov' => ?_
                  conv => whnf
                  first
                    | (refine cT rfl ?_
                       conv => whnf
                       cases he
                       exact ⟨rfl, ov', T', hov', rfl⟩)
                    | (refine cF rfl ?_
                       conv => whnf
                       repeat ((first | refine ⟨gP_of ⟨by omega, by omega⟩, ?_⟩ | intro (nb : Nat)); conv => whnf)
                       exact ⟨_, by omega, i + 1, o2, ov', T', rfl, rfl, rfl, by omega, hov', he⟩)
              · rename_i o2 hrec
                rcases hcl with ⟨rfl, rfl, rfl⟩ | ⟨q, rfl, rfl⟩
                · conv => whnf
                  repeat ((first | refine ⟨gP_of ⟨by omega, by omega⟩, ?_⟩ | (refine ⟨(by show 1 ≤ 4294967296; omega), fun q' => ?_⟩)); conv => whnf)
                  refine ACalls.tok (ih nx row2 ([] ++ [(i : Int)]) (left - 1) o o2 _ ov T _ hrec hov ?_) (.cons (VLe.refl _) (.cons (VLe.refl _) (.cons (VLe.refl _) (.cons VLe.sl (VsLe.refl _)))))
                  refine fun ov' T' hov' => ?_
                  conv => whnf
                  first
                    | (refine cT rfl ?_
                       conv => whnf
                       cases he
                       exact ⟨rfl, ov', T', hov', rfl⟩)
                    | (refine cF rfl ?_
                       conv => whnf
                       repeat ((first | refine ⟨gP_of ⟨by omega, by omega⟩, ?_⟩ | intro (nb : Nat)); conv => whnf)
                       exact ⟨_, by omega, i + 1, o2, ov', T', rfl, rfl, rfl, by omega, hov', he⟩)
                · conv => whnf
                  repeat ((first | refine ⟨gP_of ⟨by omega, by omega⟩, ?_⟩ | (refine ⟨(by rw [List.length_append, ints_length]; show _ + 1 ≤ 4294967296; omega), fun q' => ⟨_, .here _, ?_⟩⟩)); conv => whnf)
                  rw [show ints line ++ [[AV.int .i64 (i : Int)]] = ints (line ++ [(i : Int)]) from by simp [ints]]
                  refine ACalls.tok (ih nx row2 (line ++ [(i : Int)]) (left - 1) o o2 _ ov T _ hrec hov ?_) (.cons (VLe.refl _) (.cons (VLe.refl _) (.cons (VLe.refl _) (.cons VLe.sl (VsLe.refl _)))))
                  refine fun ov' T' hov' => ?_
                  conv => whnf
                  first
                    | (refine cT rfl ?_
                       conv => whnf
                       cases he
                       exact ⟨rfl, ov', T', hov', rfl⟩)
                    | (refine cF rfl ?_
                       conv => whnf
                       repeat ((first | refine ⟨gP_of ⟨by omega, by omega⟩, ?_⟩ | intro (nb : Nat)); conv => whnf)
                       exact ⟨_, by omega, i + 1, o2, ov', T', rfl, rfl, rfl, by omega, hov', he⟩)
          · rw [drop_nil (by rw [upto_len]; omega), wkGo] at he
            cases he
            conv => whnf
            exact ⟨rfl, ov, T, hov, rfl⟩
end Go.Abs.Wall
set_option maxRecDepth 100000
set_option linter.unusedVariables false
namespace Go.Abs.Wall
open Go Go.Abs Go.Proofs
theorem ACalls.swap {P : Program} {f : FuncId} {args : List AV} {A B : Heap} {R : AV → Heap → Prop} (h : ACalls P f args (B ++ A) R) : ACalls P f args (A ++ B) R :=
  ACalls.pre h (fun k o hm => List.mem_append.2 ((List.mem_append.1 hm).symm)) (fun hnd => by
    have e : keys (B ++ A) = keys B ++ keys A := by simp [keys]
    have e2 : keys (A ++ B) = keys A ++ keys B := by simp [keys]
    rw [e2] at hnd; rw [e]
    exact List.perm_append_comm.nodup_iff.1 hnd)
theorem ACalls.fr {P : Program} {f : FuncId} {args : List AV} {A T : Heap} {R K : AV → Heap → Prop} (h : ACalls P f args A R) (hk : ∀ v h', R v h' → K v (h' ++ T)) : ACalls P f args (A ++ T) K :=
  ACalls.mono (by rintro v h' ⟨h1, hr, rfl⟩; exact hk v h1 hr) (ACalls.frame h T)
theorem ACalls.mv {P : Program} {f : FuncId} {args : List AV} {A B C D : Heap} {R : AV → Heap → Prop} (h : ACalls P f args ((A ++ C) ++ B) R) : ACalls P f args ((A ++ (D ++ B)) ++ C) R :=
  ACalls.pre h (fun k o hm => by simp only [List.mem_append] at hm ⊢; rcases hm with (h | h) | h <;> simp [h]) (fun hnd => by
    have e1 : keys ((A ++ C) ++ B) = (keys A ++ keys C) ++ keys B := by simp [keys]
    have e2 : keys ((A ++ (D ++ B)) ++ C) = (keys A ++ (keys D ++ keys B)) ++ keys C := by simp [keys]
    rw [e2] at hnd; rw [e1]
    have hs : ((keys A ++ keys B) ++ keys C).Sublist ((keys A ++ (keys D ++ keys B)) ++ keys C) := ((List.Sublist.refl _).append (List.sublist_append_right _ _)).append (List.Sublist.refl _)
    have hp : ((keys A ++ keys C) ++ keys B).Perm ((keys A ++ keys B) ++ keys C) := by
      rw [List.append_assoc, List.append_assoc]
      exact List.Perm.append_left _ List.perm_append_comm
    exact hp.nodup_iff.2 (hs.nodup hnd))
theorem Turn.reh {r r' : Regs} {A B C D : Heap} (hr : RLe r r') : Turn r (D ++ ((A ++ C) ++ B)) r' (D ++ (A ++ B)) :=
  (Turn.weak hr).trans (Turn.sub (fun k o hm => by simp only [List.mem_append] at hm ⊢; rcases hm with h | h | h <;> simp [h]) (fun hnd => by
    have e1 : keys (D ++ ((A ++ C) ++ B)) = keys D ++ ((keys A ++ keys C) ++ keys B) := by simp [keys]
    have e2 : keys (D ++ (A ++ B)) = keys D ++ (keys A ++ keys B) := by simp [keys]
    rw [e1] at hnd; rw [e2]
    exact ((List.Sublist.refl _).append ((List.sublist_append_left _ _).append (List.Sublist.refl _))).nodup hnd))
theorem Turn.pre {r r' : Regs} {A D : Heap} (hr : RLe r r') : Turn r (D ++ A) r' A :=
  (Turn.weak hr).trans (Turn.sub (fun k o hm => List.mem_append_right _ hm) (fun hnd => by
    simp only [keys, List.map_append, List.nodup_append] at hnd ⊢
    exact hnd.2.1))
theorem RLe.at {t : Nat} {g : G} {x y : AV} {r : Regs} (h : VLe x y) : RLe ((t, g, x) :: r) ((t, g, y) :: r) := .cons h (RLe.refl _)
theorem upto_succ (j : Nat) : upto ((j + 1 : Nat) : Int) = upto j ++ [(j : Int)] := by
  unfold upto
  rw [Int.toNat_natCast, Int.toNat_natCast, List.range_succ, List.map_append]; rfl
theorem Rem.app {b : Nat} {o : Ob} {h h' : Heap} (A : Heap) (hr : Rem b o h h') : Rem b o (A ++ h) (A ++ h') := by
  induction A with
  | nil => exact hr
  | cons x A ih => exact .there ih
/-! ### first -/
def chGo (wk : Int → List Rst → Option (List Rst × Bool)) (most : Int) : List Int → List Rst → Option (List Rst)
  | [], out => some out
  | r :: rs, out => match wk r out with
    | none => none
    | some (out2, _) => if (out2.length : Int) = most then some out2 else chGo wk most rs out2
def fsGo (wk : Int → Int → List Rst → Option (List Rst × Bool)) (most all tot : Int) : Nat → Int → List Rst → Option (List Rst)
  | 0, _, _ => none
  | f + 1, c, out => if (out.length : Int) < min most all then (match chGo (wk c) most (upto (tot + 1)) out with
      | none => none
      | some out2 => fsGo wk most all tot f (c + 1) out2) else some out
def totM (cells : List Cel) : Int := (cells.map (·.mx)).sum
theorem totM_bd {cells : List Cel} (hc : CelsOK cells) : 0 ≤ totM cells ∧ totM cells ≤ 400 := by
  have hcl := hc.len
  have key : ∀ l : List Cel, (∀ c ∈ l, 0 ≤ c.mx ∧ c.mx ≤ 9) → 0 ≤ (l.map (·.mx)).sum ∧ (l.map (·.mx)).sum ≤ 9 * l.length := by
    intro l
    induction l with
    | nil => intro _; simp
    | cons c l ih =>
      intro h
      have h1 := ih fun x hx => h x (by simp [hx])
      have h2 := h c (by simp)
      simp only [List.map_cons, List.sum_cons, List.length_cons]
      omega
  have := key cells fun c hx => by have := hc.each c hx; omega
  unfold totM; omega
def firstM (n : Int) (F : Nat) (cells : List Cel) (ps : List Pos) (par : List Int) (most : Int) (f1 f2 f3 : Nat) : Option (List Rst) :=
  match bfs cells ps F [0] [] with
  | none => none
  | some R => match countM n F cells ps f1 (isort R) [] with
    | none => none
    | some (all, _) => fsGo (fun c r out => walkM n F cells ps par (restL cells ps par (totM cells + 1).toNat) most c f2 (isort R) (upto (par.length + 1)) [] r out) most all (totM cells) f3 0 []
def c51 : Cfg := ⟨[0, 1, 2, 3, 4, 5, 6, 7, 8, 9, 10, 25, 26, 27, 39, 44, 45, 46, 58], [14], [4], [], [], []⟩
theorem first {n : Int} {cells : List Cel} {par : List Int} {pq : Nat} {b km : Nat} {ps : List Pos} {F f1 f2 f3 : Nat} {most : Int} {out : List Rst} (hn0 : 0 ≤ n) (hn : n ≤ 1048576) (hc : CelsOK cells) (hp : par.length ≤ 60) (hps : PosOK cells ps) (hF : F ≤ 65535) (hf3 : f3 ≤ 1048576) (hm : most ≤ 1048576)
    (h : firstM n F cells ps par most f1 f2 f3 = some out) :
    ACalls Try.prog 51 [.optr b 0, .int .i64 most] (sh n cells par (.sl 2 (some pq) (ps.map encPos)) ps .nilS b km) (fun v _ => VLe v (.sl 4 none (out.map encRst))) := by
  unfold firstM at h
  split at h
  · cases h
  rename_i R hR
  split at h
  · cases h
  rename_i all kn2 hall
  obtain ⟨ht0, ht1⟩ := totM_bd hc
  have hil := ints_length par
  have hN := hps.len
  have hRl := bfs_len hR
  simp only [List.length_nil] at hRl
  refine fcalls (F := Try.f51) c51 rfl rfl rfl mixed rfl fun X => ?_
  conv => whnf
  intro ob
  conv => whnf
  refine ACalls.swap (A := [(ob, Ob.vec [.nilS])]) (B := sh n cells par (.sl 2 (some pq) (ps.map encPos)) ps .nilS b km) ?_
  refine ACalls.fr (prepare hc hps hp) ?_
  rintro v h1 ⟨rfl, rq, rfl⟩
  conv => whnf
  intro q0
  conv => whnf
  obtain ⟨SH, hSH⟩ : ∃ SH, SH = sh n cells par (.sl 2 (some pq) (ps.map encPos)) ps (.sl 1 (some rq) ((restL cells ps par (totM cells + 1).toNat).map encTab)) b km := ⟨_, rfl⟩
  show ACalls Try.prog 53 [.optr b 0, .sl 1 (some q0) (ints [0])] (([(q0, Ob.tok)] ++ sh n cells par (.sl 2 (some pq) (ps.map encPos)) ps (.sl 1 (some rq) ((restL cells ps par (totM cells + 1).toNat).map encTab)) b km) ++ ([(rq, Ob.tok)] ++ [(ob, Ob.vec [.nilS])])) _
  refine ACalls.fr (closed (K := fun v h => v = .sl 1 none (ints (isort R)) ∧ h = sh n cells par (.sl 2 (some pq) (ps.map encPos)) ps (.sl 1 (some rq) ((restL cells ps par (totM cells + 1).toNat).map encTab)) b km) hc hN.2 (by simp only [List.length_singleton]; omega) hR (fun e => by subst e; simp at hRl) (by omega) ⟨rfl, rfl⟩) ?_
  rintro v h1 ⟨rfl, rfl⟩
  rw [← hSH]
  conv => whnf
  intro kn
  conv => whnf
  have hmem : (b, Ob.vec (sv n cells par (.sl 2 (some pq) (ps.map encPos)) km (.sl 1 (some rq) ((restL cells ps par (totM cells + 1).toNat).map encTab)))) ∈ SH := by rw [hSH]; exact .head _
  have htot : QCall Try.prog 84 [.optr b 0] SH (.int .i64 (totM cells)) := by rw [hSH]; exact total n cells par _ _ b km ps hc
  refine ACalls.swap (A := [(kn, Ob.map [])]) (B := SH ++ ([(rq, Ob.tok)] ++ [(ob, Ob.vec [.nilS])])) ?_
  refine ACalls.mv ?_
  refine ACalls.fr (A := SH ++ [(kn, Ob.map [])]) (T := [(ob, Ob.vec [.nilS])]) (R := fun v h => v = .int .i64 all ∧ h = SH ++ [(kn, Ob.map (encKn kn2))]) (by rw [hSH]; exact count hn0 hn hc hN.2 f1 (isort R) [] kn2 all _ hall ⟨rfl, rfl⟩) ?_
  rintro v h1 ⟨rfl, rfl⟩
  conv => whnf
  repeat ((first | refine ⟨gP_of ⟨by omega, by omega⟩, ?_⟩ | (refine ⟨_, _, List.mem_append_left _ (List.mem_append_left _ hmem), rfl, ?_⟩)); conv => whnf)
  rw [hil]
  refine tloop rfl mixed [2, 3, 4, 5, 6, 7, 25, 26] [(7, 1)] (fun m r h => ∃ (j : Nat) (q : Nat), r = [(2, [], .iptr [.optr b 0]), (3, [], .iptr [.int .i64 most]), (4, [], .optr ob 0), (5, [], .sl 1 none (ints (isort R))), (6, [], .int .i64 all), (7, [], .sl 1 (some q) (ints (upto j))), (25, [], .int .i64 (par.length + 1)), (26, [], .int .i64 j)] ∧ h = [(q, .tok)] ++ (SH ++ [(ob, .vec [.nilS])]) ∧ m = par.length + 1 - j ∧ j ≤ par.length + 1) ?_ ?_
  · conv => whnf
    refine ⟨by decide, fun q => ?_⟩
    conv => whnf
    exact ⟨_, _, Turn.reh (D := [(q, Ob.tok)]) (RLe.refl _), _, 0, q, rfl, rfl, rfl, by omega⟩
  · rintro m rr hh ⟨j, q, rfl, rfl, rfl, hj⟩
    conv => whnf
    refine ⟨fun hf => ?_, fun hf => ?_⟩ <;> simp at hf
    · conv => whnf
      repeat ((first | refine ⟨gP_of ⟨by omega, by omega⟩, ?_⟩ | (refine ⟨(by rw [List.length_append, ints_length, upto_len]; show _ + 1 ≤ 4294967296; omega), fun q' => ⟨_, .here _, ?_⟩⟩)); conv => whnf)
      exact ⟨_, _, Turn.refl _ _, _, by omega, j + 1, q', by rw [upto_succ]; simp [ints], rfl, rfl, by omega⟩
    · have hjm : j = par.length + 1 := by omega
      subst hjm
      conv => whnf
      skip
      refine tloop rfl mixed [2, 3, 4, 5, 6, 7, 9] [] (fun m r h => ∃ (f : Nat) (c : Int) (o : List Rst) (ov : AV) (T : Heap), r = [(2, [], .iptr [.optr b 0]), (3, [], .iptr [.int .i64 most]), (4, [], .optr ob 0), (5, [], .sl 1 none (ints (isort R))), (6, [], .int .i64 all), (7, [], .sl 1 none (ints (upto (par.length + 1)))), (9, [], .int .i64 c)] ∧ h = SH ++ ([(ob, .vec [ov])] ++ T) ∧ m = f ∧ OV o ov T ∧ 0 ≤ c ∧ c + f ≤ 1048576 ∧ fsGo (fun c r out => walkM n F cells ps par (restL cells ps par (totM cells + 1).toNat) most c f2 (isort R) (upto (par.length + 1)) [] r out) most all (totM cells) f c o = some out) ?_ ?_
      · conv => whnf
        refine ⟨_, _, Turn.pre (D := [(q, Ob.tok)]) (.cons (VLe.refl _) (.cons (VLe.refl _) (.cons (VLe.refl _) (.cons (VLe.refl _) (.cons (VLe.refl _) (.cons VLe.sl (RLe.refl _))))))), _, f3, 0, [], .nilS, [], rfl, rfl, rfl, .inl ⟨rfl, rfl, rfl⟩, by omega, by omega, h⟩
      · rintro f rr hh ⟨_, c, o0, ov, T, rfl, rfl, rfl, hov, hc0, hcf, he⟩
        cases f with
        | zero => cases he
        | succ f =>
        rw [fsGo] at he
        rcases id hov with ⟨ho, rfl, rfl⟩ | ⟨q2, rfl, rfl⟩
        · conv => whnf
          repeat ((refine ⟨_, _, List.mem_append_right _ (.head _), rfl, ?_⟩); conv => whnf)
          refine ⟨fun hb => ?_, fun hb => ?_⟩
          · have hb : (o0.length : Int) < min most all := by first | simpa using hb | (rw [ho]; simpa using hb)
            rw [if_pos hb] at he
            split at he
            · cases he
            rename_i oc hch
            conv => whnf
            repeat ((first | refine ⟨gP_of ⟨by omega, by omega⟩, ?_⟩ | (refine QCall.fr (h := SH) htot ?_)); conv => whnf)
            refine tloop rfl mixed [2, 3, 4, 5, 6, 7, 9, 44, 45] [] (fun m r h => ∃ (i : Nat) (o : List Rst) (ov : AV) (T : Heap), r = [(2, [], .iptr [.optr b 0]), (3, [], .iptr [.int .i64 most]), (4, [], .optr ob 0), (5, [], .sl 1 none (ints (isort R))), (6, [], .int .i64 all), (7, [], .sl 1 none (ints (upto (par.length + 1)))), (9, [], .int .i64 c), (44, [], .int .i64 (totM cells + 1)), (45, [], .int .i64 i)] ∧ h = SH ++ ([(ob, .vec [ov])] ++ T) ∧ m = (totM cells + 1).toNat - i ∧ i ≤ totM cells + 1 ∧ OV o ov T ∧ chGo ((fun c r out => walkM n F cells ps par (restL cells ps par (totM cells + 1).toNat) most c f2 (isort R) (upto (par.length + 1)) [] r out) c) most ((upto (totM cells + 1)).drop i) o = some oc) ?_ ?_
            · conv => whnf
              exact ⟨_, _, Turn.refl _ _, _, 0, o0, _, _, rfl, rfl, rfl, by omega, hov, hch⟩
            · rintro mm rr hh ⟨i, o, ov, T, rfl, rfl, rfl, hi, hov, hx⟩
              conv => whnf
              refine ⟨fun hf => ?_, fun hf => ?_⟩ <;> simp at hf
              · rw [drop_cons (upto_get hf), chGo] at hx
                split at hx
                · cases hx
                rename_i o2 r2 hwk
                conv => whnf
                refine ACalls.args (args' := [.optr b 0, .sl 1 none (ints (isort R)), .sl 1 none (ints (upto (par.length + 1))), .sl 1 none (ints []), .int .i64 c, .int .i64 i, .fn 86 [.optr ob 0, .iptr [.optr b 0], .iptr [.int .i64 most]]]) ?_ (.cons (VLe.refl _) (.cons (VLe.refl _) (.cons (VLe.refl _) (.cons (VLe.nil (by decide)) (VsLe.refl _)))))
                have hw : ∀ K : AV → Heap → Prop, (∀ ov' T', OV o2 ov' T' → K (.bool r2) (SH ++ ([(ob, Ob.vec [ov'])] ++ T'))) → ACalls Try.prog 85 [.optr b 0, .sl 1 none (ints (isort R)), .sl 1 none (ints (upto (par.length + 1))), .sl 1 none (ints []), .int .i64 c, .int .i64 i, .fn 86 [.optr ob 0, .iptr [.optr b 0], .iptr [.int .i64 most]]] (SH ++ ([(ob, Ob.vec [ov])] ++ T)) K := by
                  rw [hSH]
                  intro K hK
                  exact walk hn0 hn hc hp hN.2 f2 _ _ _ _ _ _ _ _ _ _ hwk hov hK
                refine hw _ fun ov2 T2 hov2 => ?_
                rcases id hov2 with ⟨ho2, rfl, rfl⟩ | ⟨q3, rfl, rfl⟩
                · conv => whnf
                  repeat ((refine ⟨_, _, List.mem_append_right _ (.head _), rfl, ?_⟩); conv => whnf)
                  refine ⟨fun hb => ?_, fun hb => ?_⟩
                  · have hb : (o2.length : Int) = most := by first | simpa using hb | (rw [ho2]; simpa using hb)
                    rw [if_pos hb] at hx
                    cases hx
                    conv => whnf
                    repeat (refine ⟨gP_of ⟨by omega, by omega⟩, ?_⟩; conv => whnf)
                    exact ⟨_, _, Turn.refl _ _, f, by omega, f, c + 1, _, _, _, rfl, rfl, rfl, hov2, by omega, by omega, he⟩
                  · have hb : ¬ (o2.length : Int) = most := by first | simpa using hb | (rw [ho2]; simpa using hb)
                    rw [if_neg hb] at hx
                    conv => whnf
                    repeat (refine ⟨gP_of ⟨by omega, by omega⟩, ?_⟩; conv => whnf)
                    exact ⟨_, _, Turn.refl _ _, _, by omega, i + 1, o2, _, _, rfl, rfl, rfl, by omega, hov2, hx⟩
                · conv => whnf
                  repeat ((refine ⟨_, _, List.mem_append_right _ (.head _), rfl, ?_⟩); conv => whnf)
                  refine ⟨fun hb => ?_, fun hb => ?_⟩
                  · have hb : (o2.length : Int) = most := by first | simpa using hb | (rw [ho2]; simpa using hb)
                    rw [if_pos hb] at hx
                    cases hx
                    conv => whnf
                    repeat (refine ⟨gP_of ⟨by omega, by omega⟩, ?_⟩; conv => whnf)
                    exact ⟨_, _, Turn.refl _ _, f, by omega, f, c + 1, _, _, _, rfl, rfl, rfl, hov2, by omega, by omega, he⟩
                  · have hb : ¬ (o2.length : Int) = most := by first | simpa using hb | (rw [ho2]; simpa using hb)
                    rw [if_neg hb] at hx
                    conv => whnf
                    repeat (refine ⟨gP_of ⟨by omega, by omega⟩, ?_⟩; conv => whnf)
                    exact ⟨_, _, Turn.refl _ _, _, by omega, i + 1, o2, _, _, rfl, rfl, rfl, by omega, hov2, hx⟩
              · rw [drop_nil (by rw [upto_len]; omega), chGo] at hx
                cases hx
                conv => whnf
                repeat (refine ⟨gP_of ⟨by omega, by omega⟩, ?_⟩; conv => whnf)
                exact ⟨_, _, Turn.refl _ _, f, by omega, f, c + 1, _, _, _, rfl, rfl, rfl, hov, by omega, by omega, he⟩
          · have hb : ¬ (o0.length : Int) < min most all := by first | simpa using hb | (rw [ho]; simpa using hb)
            rw [if_neg hb] at he
            cases he
            conv => whnf
            repeat ((first | (refine ⟨_, _, List.mem_append_right _ (.head _), rfl, ?_⟩) | (refine ⟨_, _, Rem.app SH (.here _), ⟨by simp, rfl⟩, ?_⟩)); conv => whnf)
            first | exact VLe.sl | (rw [ho]; exact VLe.nil (by decide))
        · conv => whnf
          repeat ((refine ⟨_, _, List.mem_append_right _ (.head _), rfl, ?_⟩); conv => whnf)
          refine ⟨fun hb => ?_, fun hb => ?_⟩
          · have hb : (o0.length : Int) < min most all := by first | simpa using hb | (rw [ho]; simpa using hb)
            rw [if_pos hb] at he
            split at he
            · cases he
            rename_i oc hch
            conv => whnf
            repeat ((first | refine ⟨gP_of ⟨by omega, by omega⟩, ?_⟩ | (refine QCall.fr (h := SH) htot ?_)); conv => whnf)
            refine tloop rfl mixed [2, 3, 4, 5, 6, 7, 9, 44, 45] [] (fun m r h => ∃ (i : Nat) (o : List Rst) (ov : AV) (T : Heap), r = [(2, [], .iptr [.optr b 0]), (3, [], .iptr [.int .i64 most]), (4, [], .optr ob 0), (5, [], .sl 1 none (ints (isort R))), (6, [], .int .i64 all), (7, [], .sl 1 none (ints (upto (par.length + 1)))), (9, [], .int .i64 c), (44, [], .int .i64 (totM cells + 1)), (45, [], .int .i64 i)] ∧ h = SH ++ ([(ob, .vec [ov])] ++ T) ∧ m = (totM cells + 1).toNat - i ∧ i ≤ totM cells + 1 ∧ OV o ov T ∧ chGo ((fun c r out => walkM n F cells ps par (restL cells ps par (totM cells + 1).toNat) most c f2 (isort R) (upto (par.length + 1)) [] r out) c) most ((upto (totM cells + 1)).drop i) o = some oc) ?_ ?_
            · conv => whnf
              exact ⟨_, _, Turn.refl _ _, _, 0, o0, _, _, rfl, rfl, rfl, by omega, hov, hch⟩
            · rintro mm rr hh ⟨i, o, ov, T, rfl, rfl, rfl, hi, hov, hx⟩
              conv => whnf
              refine ⟨fun hf => ?_, fun hf => ?_⟩ <;> simp at hf
              · rw [drop_cons (upto_get hf), chGo] at hx
                split at hx
                · cases hx
                rename_i o2 r2 hwk
                conv => whnf
                refine ACalls.args (args' := [.optr b 0, .sl 1 none (ints (isort R)), .sl 1 none (ints (upto (par.length + 1))), .sl 1 none (ints []), .int .i64 c, .int .i64 i, .fn 86 [.optr ob 0, .iptr [.optr b 0], .iptr [.int .i64 most]]]) ?_ (.cons (VLe.refl _) (.cons (VLe.refl _) (.cons (VLe.refl _) (.cons (VLe.nil (by decide)) (VsLe.refl _)))))
                have hw : ∀ K : AV → Heap → Prop, (∀ ov' T', OV o2 ov' T' → K (.bool r2) (SH ++ ([(ob, Ob.vec [ov'])] ++ T'))) → ACalls Try.prog 85 [.optr b 0, .sl 1 none (ints (isort R)), .sl 1 none (ints (upto (par.length + 1))), .sl 1 none (ints []), .int .i64 c, .int .i64 i, .fn 86 [.optr ob 0, .iptr [.optr b 0], .iptr [.int .i64 most]]] (SH ++ ([(ob, Ob.vec [ov])] ++ T)) K := by
                  rw [hSH]
                  intro K hK
                  exact walk hn0 hn hc hp hN.2 f2 _ _ _ _ _ _ _ _ _ _ hwk hov hK
                refine hw _ fun ov2 T2 hov2 => ?_
                rcases id hov2 with ⟨ho2, rfl, rfl⟩ | ⟨q3, rfl, rfl⟩
                · conv => whnf
                  repeat ((refine ⟨_, _, List.mem_append_right _ (.head _), rfl, ?_⟩); conv => whnf)
                  refine ⟨fun hb => ?_, fun hb => ?_⟩
                  · have hb : (o2.length : Int) = most := by first | simpa using hb | (rw [ho2]; simpa using hb)
                    rw [if_pos hb] at hx
                    cases hx
                    conv => whnf
                    repeat (refine ⟨gP_of ⟨by omega, by omega⟩, ?_⟩; conv => whnf)
                    exact ⟨_, _, Turn.refl _ _, f, by omega, f, c + 1, _, _, _, rfl, rfl, rfl, hov2, by omega, by omega, he⟩
                  · have hb : ¬ (o2.length : Int) = most := by first | simpa using hb | (rw [ho2]; simpa using hb)
                    rw [if_neg hb] at hx
                    conv => whnf
                    repeat (refine ⟨gP_of ⟨by omega, by omega⟩, ?_⟩; conv => whnf)
                    exact ⟨_, _, Turn.refl _ _, _, by omega, i + 1, o2, _, _, rfl, rfl, rfl, by omega, hov2, hx⟩
                · conv => whnf
                  repeat ((refine ⟨_, _, List.mem_append_right _ (.head _), rfl, ?_⟩); conv => whnf)
                  refine ⟨fun hb => ?_, fun hb => ?_⟩
                  · have hb : (o2.length : Int) = most := by first | simpa using hb | (rw [ho2]; simpa using hb)
                    rw [if_pos hb] at hx
                    cases hx
                    conv => whnf
                    repeat (refine ⟨gP_of ⟨by omega, by omega⟩, ?_⟩; conv => whnf)
                    exact ⟨_, _, Turn.refl _ _, f, by omega, f, c + 1, _, _, _, rfl, rfl, rfl, hov2, by omega, by omega, he⟩
                  · have hb : ¬ (o2.length : Int) = most := by first | simpa using hb | (rw [ho2]; simpa using hb)
                    rw [if_neg hb] at hx
                    conv => whnf
                    repeat (refine ⟨gP_of ⟨by omega, by omega⟩, ?_⟩; conv => whnf)
                    exact ⟨_, _, Turn.refl _ _, _, by omega, i + 1, o2, _, _, rfl, rfl, rfl, by omega, hov2, hx⟩
              · rw [drop_nil (by rw [upto_len]; omega), chGo] at hx
                cases hx
                conv => whnf
                repeat (refine ⟨gP_of ⟨by omega, by omega⟩, ?_⟩; conv => whnf)
                exact ⟨_, _, Turn.refl _ _, f, by omega, f, c + 1, _, _, _, rfl, rfl, rfl, hov, by omega, by omega, he⟩
          · have hb : ¬ (o0.length : Int) < min most all := by first | simpa using hb | (rw [ho]; simpa using hb)
            rw [if_neg hb] at he
            cases he
            conv => whnf
            repeat ((first | (refine ⟨_, _, List.mem_append_right _ (.head _), rfl, ?_⟩) | (refine ⟨_, _, Rem.app SH (.here _), ⟨by simp, rfl⟩, ?_⟩)); conv => whnf)
            first | exact VLe.sl | (rw [ho]; exact VLe.nil (by decide))
end Go.Abs.Wall
set_option maxRecDepth 100000
set_option linter.unusedVariables false
namespace Go.Abs.Wall
open Go Go.Abs Go.Proofs
theorem lst_ok {l : Lst} (h : lstErr l = 0) : l.signs.length ≤ 1048576 := by
  unfold lstErr at h
  split at h
  · cases h
  · omega
theorem check_lst {l : Lst} {cells : List Cel} (h : checkErr l cells = 0) : lstErr l = 0 := by
  unfold checkErr at h
  split at h
  · rename_i h1; exact absurd h h1
  · rename_i h1; simpa using h1
def listErr (l : Lst) (cells : List Cel) (par : List Int) (most : Int) : Int :=
  if checkErr1 l cells par ≠ 0 then checkErr1 l cells par else if 1 ≤ most ∧ most ≤ 64 then 0 else 1
/-- what the program's search for restorations gives -/
def firstP (l : Lst) (cells : List Cel) (par : List Int) (most : Int) : Option (List Rst) := firstM l.signs.length 20000 cells (posOf cells 0) par most 1000 1000 10000
def encRR (x : List Rst × Int) : AV := .tup [.sl 4 none (x.1.map encRst), .int .i64 x.2]
theorem posOf_pos {cells : List Cel} (hc : CelsOK cells) : PosOK cells (posOf cells 0) := by
  have h1 := posOf_length cells 0 fun c hx => by have := hc.each c hx; omega
  have h2 := hc.len
  exact (posT cells fun c hx => by have := hc.each c hx; omega).ok (by omega)
def c20 : Cfg := ⟨[0, 1, 2, 3, 4, 8, 9, 10, 17, 21], [], [], [], [], []⟩
theorem wallList (l : Lst) (cells : List Cel) (par : List Int) (most : Int) (out : List Rst) (hl : LstFit l) (hc : CelsFit cells) (hn : par.length ≤ LMAX) (h : listErr l cells par most = 0 → firstP l cells par most = some out) :
    QCall Try.prog 20 [.agg (encLst l), .sl 3 none (cells.map encCel), .sl 1 none (ints par), .int .i64 most] [] (encRR (if listErr l cells par most = 0 then (out, 0) else ([], listErr l cells par most))) := by
  refine QCall.of ?_
  refine fcalls (F := Try.f20) c20 rfl rfl rfl mixed rfl fun X => ?_
  conv => whnf
  repeat (refine QCall.k0 (wallCheck1 l cells par hl hc hn) ?_; conv => whnf)
  refine ⟨fun hd => ?_, fun hd => ?_⟩ <;> simp at hd
  · have e : listErr l cells par most = checkErr1 l cells par := by unfold listErr; rw [if_pos hd]
    conv => whnf
    rw [e, if_neg hd]
    exact nilTup (by decide)
  · obtain ⟨h1, h2⟩ := check1_ok hd hc
    have hce : checkErr l cells = 0 := by unfold checkErr1 at hd; split at hd; exact hd; rename_i h3; simpa using h3
    have hls := lst_ok (check_lst hce)
    have e : listErr l cells par most = if 1 ≤ most ∧ most ≤ 64 then 0 else 1 := by unfold listErr; rw [if_neg (by simpa using hd)]
    conv => whnf
    repeat (refine QCall.k0 (within most 1 64) ?_; conv => whnf)
    refine ⟨fun he => ?_, fun he => ?_⟩ <;> simp at he
    · conv => whnf
      rw [e, if_neg (show ¬ (1 ≤ most ∧ most ≤ 64) by omega), if_neg (show ¬ (1 : Int) = 0 by decide)]
      exact nilTup (by decide)
    · rw [e, if_pos (by omega)] at h ⊢
      have hp := posOf_pos h1
      conv => whnf
      rw [List.length_map]
      repeat ((refine ACalls.mono ?_ (newSearch l.signs.length cells par h1)); conv => whnf)
      rintro v h' ⟨b, m, q, rfl, rfl⟩
      conv => whnf
      refine ACalls.mono ?_ (ACalls.pre (first (by omega) (by omega) h1 h2 hp (by omega) (by omega) (by omega) (h rfl)) (fun k o hm => List.mem_append_right _ hm) (fun hnd => by
        simp only [keys, List.map_append, List.nodup_append] at hnd ⊢
        exact hnd.2.1))
      intro v h' hv
      conv => whnf
      exact VLe.tup (.cons hv (VsLe.refl _))
/-! ### Restore -/
/-! ### Count -/
end Go.Abs.Wall
set_option maxRecDepth 100000
set_option linter.unusedVariables false
namespace Go.Abs.Wall
open Go Go.Abs Go.Proofs
def exCells : List Cel := [⟨1, 1, [0]⟩, ⟨0, 2, []⟩, ⟨1, 1, [2]⟩]
def exOut : List Rst := [⟨[0, 2], [0, 2], [-1, -1], 2⟩, ⟨[0, 1, 2], [0, 1, 2], [-1, 1, -1], 2⟩, ⟨[0, 1, 1, 2], [0, 1, 1, 2], [-1, 0, 1, -1], 2⟩]
theorem exFirst : firstM 3 20000 exCells (posOf exCells 0) [1, 1] 3 1000 1000 10000 = some exOut := by decide +kernel
def exLst : Lst := ⟨1, [⟨[65, 49], 1, 1, false, []⟩, ⟨[66, 49], 1, 1, false, []⟩, ⟨[67, 49], 1, 1, false, []⟩]⟩
theorem exErrL : listErr exLst exCells [1, 1] 3 = 0 := by decide +kernel
theorem exL : LstFit exLst := ⟨by decide, fun s hs => ⟨by revert s; decide, by revert s; decide, by revert s; decide⟩⟩
theorem exC : CelsFit exCells := ⟨by decide, by decide⟩
theorem exList : QCall Try.prog 20 [.agg (encLst exLst), .sl 3 none (exCells.map encCel), .sl 1 none (ints [1, 1]), .int .i64 3] [] (encRR (exOut, 0)) := by
  have := wallList exLst exCells [1, 1] 3 exOut exL exC (by decide) (fun _ => exFirst)
  rw [if_pos exErrL] at this
  exact this
def c19 : Cfg := ⟨[0, 1, 2, 3, 4], [], [1], [], [], []⟩
theorem works : QCall Try.prog 19 [] [] (.bool true) := by
  refine fcalls (F := Try.f19) c19 rfl rfl rfl mixed rfl fun X => ?_
  conv => whnf
  repeat ((first | refine ⟨_, _, Rem.here _, ⟨Nat.le_of_ble_eq_true rfl, rfl⟩, ?_⟩ | intro (nb : Nat)); conv => whnf)
  have n4 := VLe.nil (k := 4) (by decide)
  have n1 := VLe.nil (k := 1) (by decide)
  refine QCall.k (QCall.args exList (.cons (VLe.agg (.cons (VLe.refl _) (.cons (VLe.els ?_) .nil))) (.cons (VLe.els ?_) (VsLe.refl _)))) ?_
  · exact .cons (.cons (VLe.refl _) (.cons (VLe.refl _) (.cons (VLe.refl _) (.cons (VLe.refl _) (.cons n4 .nil))))) (.cons (.cons (VLe.refl _) (.cons (VLe.refl _) (.cons (VLe.refl _) (.cons (VLe.refl _) (.cons n4 .nil))))) (.cons (.cons (VLe.refl _) (.cons (VLe.refl _) (.cons (VLe.refl _) (.cons (VLe.refl _) (.cons n4 .nil))))) .nil))
  · exact .cons (VsLe.refl _) (.cons (.cons (VLe.refl _) (.cons (VLe.refl _) (.cons n1 .nil))) (.cons (VsLe.refl _) .nil))
  conv => whnf
  repeat ((first | (refine ixn 1 rfl rfl ?_) | refine gcall (sameInts [0, 1, 2] [0, 1, 2] (by decide) (by decide)) ?_ | refine gcall (sameInts [-1, 1, -1] [-1, 1, -1] (by decide) (by decide)) ?_); conv => whnf)
  exact ⟨rfl, rfl⟩
end Go.Abs.Wall

