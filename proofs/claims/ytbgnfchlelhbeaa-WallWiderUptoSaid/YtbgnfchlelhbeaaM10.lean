/- What is proved: small laws for the walks of this seat, and contracts of its functions. No condition but those each theorem names. -/
import Derived.Test.YtbgnfchlelhbeaaM8
import Derived.Test.YtbgnfchlelhbeaaM9
set_option maxRecDepth 100000
set_option linter.unusedVariables false
namespace Go.Abs.Wall
open Go Go.Abs Go.Proofs
/-! ### theory: wider cells -/
def widen (c : Cel) (fw mr : Int) (fr : Bool) : Cel := ⟨max 0 (c.mn - max 0 (min fw 3)), c.mx + max 0 (min mr 3), if fr then [] else c.signs⟩
theorem widen_le {c : Cel} (fw mr : Int) (fr : Bool) (h : 0 ≤ c.mn) : CelLe c (widen c fw mr fr) := by
  refine ⟨by unfold widen; simp only; omega, by unfold widen; simp only; omega, fun _ s hs => ?_⟩
  unfold widen allows at *
  cases fr with
  | true => simp
  | false => exact hs
theorem CelLe.refl (c : Cel) : CelLe c c := ⟨Int.le_refl _, Int.le_refl _, fun _ _ h => h⟩
theorem set_acc {n : Int} {cells : List Cel} {q : Nat} {c : Cel} {fw mr : Int} {fr : Bool} (hq : cells[q]? = some c) (h1 : right n cells = true) (h2 : right n (cells.set q (widen c fw mr fr)) = true) (w : List Int) (ha : acc cells 0 w = true) : acc (cells.set q (widen c fw mr fr)) 0 w = true := by
  rw [← fit_acc h2]
  rw [← fit_acc h1] at ha
  have hmn := ((right_iff.1 h1).2.1 c (List.mem_of_getElem? hq)).mn
  refine fitB_mono (by simp) (fun i x y hx hy => ?_) w ha
  have hlt := (List.getElem?_eq_some_iff.1 hx).1
  rw [List.getElem?_set] at hy
  by_cases e : q = i
  · subst e
    rw [if_pos rfl, if_pos hlt] at hy
    rw [hq] at hx
    cases hx; cases hy
    exact widen_le fw mr fr hmn
  · rw [if_neg e, hx] at hy
    cases hy; exact CelLe.refl x
theorem tot_le {n : Int} {A B : List Int → Bool} (h : ∀ w, A w = true → B w = true) : ∀ R, tot n A R ≤ tot n B R
  | 0 => Int.le_refl _
  | R + 1 => by
    have := tot_le (n := n) h R
    rw [tot, tot]
    have h2 : ((words n R).filter A).length ≤ ((words n R).filter B).length := by
      induction words n R with
      | nil => exact Nat.le_refl _
      | cons w ws ih =>
        rw [List.filter_cons, List.filter_cons]
        by_cases ha : A w = true
        · rw [if_pos ha, if_pos (h w ha), List.length_cons, List.length_cons]; omega
        · rw [if_neg ha]; split
          · rw [List.length_cons]; omega
          · exact ih
    omega
/-- the first line has the fewest changes -/
theorem head_least {n : Int} {cells : List Cel} {par w v : List Int} {ws : List (List Int)} (h : allLines n cells par = w :: ws) (hv : v ∈ allLines n cells par) : dist w par ≤ dist v par := by
  have hup := all_up n cells par
  rw [h] at hv hup
  rw [List.pairwise_cons] at hup
  rcases List.mem_cons.1 hv with rfl | hv
  · exact Int.le_refl _
  · rcases hup.1 v hv with h | ⟨h, _⟩ <;> omega
theorem flat_get {cs : List Cel} {i k : Nat} {c : Cel} (h : cs[i]? = some c) (hk : k < 3) : ((cs.map encCel).flatten)[i * 3 + k]? = (encCel c)[k]? := by
  induction cs generalizing i with
  | nil => cases h
  | cons d cs ih =>
    cases i with
    | zero =>
      rw [List.getElem?_cons_zero] at h; cases h
      rw [List.map_cons, List.flatten_cons, List.getElem?_append_left (by show 0 * 3 + k < 3; omega), Nat.zero_mul, Nat.zero_add]
    | succ i =>
      rw [List.getElem?_cons_succ] at h
      rw [List.map_cons, List.flatten_cons, List.getElem?_append_right (by show 3 ≤ _; omega), show (i + 1) * 3 + k - (encCel d).length = i * 3 + k from by show (i + 1) * 3 + k - 3 = _; omega]
      exact ih h
theorem flat_setR {rows : List (List AV)} {i k : Nat} {row : List AV} {v : AV} (h3 : ∀ r ∈ rows, r.length = 3) (h : rows[i]? = some row) (hk : k < 3) : (rows.flatten).set (i * 3 + k) v = (rows.set i (row.set k v)).flatten := by
  induction rows generalizing i with
  | nil => cases h
  | cons e rows ih =>
    have he := h3 e (by simp)
    cases i with
    | zero =>
      rw [List.getElem?_cons_zero] at h; cases h
      rw [List.flatten_cons, List.set_append_left _ _ (by omega), Nat.zero_mul, Nat.zero_add, List.set_cons_zero, List.flatten_cons]
    | succ i =>
      rw [List.getElem?_cons_succ] at h
      rw [List.flatten_cons, List.set_append_right _ _ (by omega), show (i + 1) * 3 + k - e.length = i * 3 + k from by omega, ih (fun r hr => h3 r (by simp [hr])) h, List.set_cons_succ, List.flatten_cons]
theorem encCel_len (cs : List Cel) : ∀ r ∈ cs.map encCel, r.length = 3 := fun r hr => by obtain ⟨c, _, rfl⟩ := List.mem_map.1 hr; rfl
theorem flat_set {cs : List Cel} {i k : Nat} {c d : Cel} {v : AV} (h : cs[i]? = some c) (hk : k < 3) (hd : (encCel c).set k v = encCel d) : ((cs.map encCel).flatten).set (i * 3 + k) v = ((cs.set i d).map encCel).flatten := by
  rw [flat_setR (encCel_len cs) (row := encCel c) (by simp [h]) hk, hd, List.map_set]
theorem flat_len (cs : List Cel) : ((cs.map encCel).flatten).length = cs.length * 3 := by
  induction cs with
  | nil => rfl
  | cons c cs ih => rw [List.map_cons, List.flatten_cons, List.length_append, ih, List.length_cons]; show 3 + _ = _; omega
end Go.Abs.Wall
set_option maxRecDepth 100000
set_option linter.unusedVariables false
namespace Go.Abs.Wall
open Go Go.Abs Go.Proofs Go.Proofs.Ytbgnfchlelhbeaa.Br
/-! ### Wider -/
theorem argWider {x : AV} (h : ArgSh Try.prog B20 59 x) : ∃ (at' fw mr : Int) (fr : Bool) (a b : List Int), x = .agg [.int .i64 at', .int .i64 fw, .int .i64 mr, .bool fr, .sl 1 none (ints a), .sl 1 none (ints b)] ∧ a.length ≤ 1048576 ∧ b.length ≤ 1048576 ∧ IntKind.i64.has at' ∧ IntKind.i64.has fw ∧ IntKind.i64.has mr := by
  obtain ⟨xs, h, hx⟩ := h
  have hx : x = .agg xs := hx
  subst hx
  obtain ⟨ps, rfl, hp⟩ := sh_struct h rfl
  obtain ⟨y1, y2, y3, y4, y5, y6, rfl, h1, h2, h3, h4, h5, h6⟩ := sh6 hp
  obtain ⟨k1, rfl, g1⟩ := shInt h1
  obtain ⟨k2, rfl, g2⟩ := shInt h2
  obtain ⟨k3, rfl, g3⟩ := shInt h3
  obtain ⟨k4, rfl⟩ := sh_bool h4 rfl
  obtain ⟨a, rfl, ha, _⟩ := shInts h5
  obtain ⟨b, rfl, hb, _⟩ := shInts h6
  exact ⟨k1, k2, k3, k4, a, b, rfl, ha, hb, g1, g2, g3⟩
theorem VssLe.setAt {x y : List AV} (h : VsLe x y) : ∀ (rows : List (List AV)) (i : Nat), VssLe (rows.set i x) (rows.set i y)
  | [], i => .nil
  | r :: rows, 0 => .cons h (VssLe.refl rows)
  | r :: rows, i + 1 => .cons (VsLe.refl r) (VssLe.setAt h rows i)
def c10 : Cfg := ⟨[0, 1, 2, 3, 5, 6, 7, 8, 10, 12, 13, 14, 15, 16, 32, 77, 92, 115, 138], [46], [15, 16], [], [(5, [0, 1, 2, 3, 4, 5, 6, 7, 8, 9, 10, 11, 12, 13, 14, 15], []), (6, [0, 1, 2, 3, 4, 5, 6, 7, 8, 9, 10, 11, 12, 13, 14], []), (9, [], [])], []⟩
theorem lawWider' (B : Nat) (hB : 450 ≤ B) (l : Lst) (cells : List Cel) (at' fw mr : Int) (fr : Bool) (par ln : List Int) (hl : LstFit l) (hc : CelsFit cells) (hp : par.length ≤ 1048576) (hn : ln.length ≤ 1048576) (ia : IntKind.i64.has at') (ib : IntKind.i64.has fw) (ic : IntKind.i64.has mr) :
    QCall Try.prog 10 [.agg (encLst l), .sl 3 none (cells.map encCel), .agg [.int .i64 at', .int .i64 fw, .int .i64 mr, .bool fr, .sl 1 none (ints par), .sl 1 none (ints ln)]] [] (.bool true) := by
  have hP : par.length ≤ LMAX := by unfold LMAX; omega
  have hN : ln.length ≤ LMAX := by unfold LMAX; omega
  have hcl := hc.len
  refine QCall.of' ?_
  refine fcalls (F := Try.f10) c10 rfl rfl rfl mixed rfl fun X => ?_
  conv => whnf
  repeat ((first | refine QCall.k0 (heavyW l cells par hl hc hP) ?_ | refine gcall (refCheckW' l cells hl hc) ?_); conv => whnf)
  refine ⟨fun hd => ?_, fun hd => ?_⟩
  · conv => whnf
    repeat (refine QCall.k0 (works) ?_; conv => whnf)
  simp only [Bool.or_eq_false_iff, Bool.not_eq_false', decide_eq_true_eq, decide_eq_false_iff_not] at hd
  obtain ⟨⟨d1, d2⟩, d3⟩ := hd
  have hlen : (cells.map encCel).length = cells.length := by simp
  rw [hlen] at d2
  have hn0 : 0 < (cells.length : Int) := by omega
  have t1 := Int.tmod_lt_of_pos at' hn0
  have t2 := Int.lt_tmod_of_pos at' hn0
  obtain ⟨A, hA⟩ : ∃ A, A = at'.tmod (cells.length : Int) := ⟨_, rfl⟩
  rw [← hA] at t1 t2
  have t3 := Int.tmod_lt_of_pos (A + cells.length) hn0
  have t4 := Int.tmod_nonneg (cells.length : Int) (show 0 ≤ A + cells.length by omega)
  obtain ⟨q, hq⟩ : ∃ q : Nat, (A + cells.length).tmod (cells.length : Int) = (q : Int) := ⟨((A + cells.length).tmod (cells.length : Int)).toNat, by omega⟩
  rw [hq] at t3
  have hi64 : ∀ x : Int, -4194304 ≤ x → x ≤ 4194304 → IntKind.i64.has x := fun x h1 h2 => by
    show -9223372036854775808 ≤ x ∧ x ≤ 9223372036854775807
    omega
  conv => whnf
  skip
  rw [hlen, ← hA]
  refine ⟨gP_of ⟨by omega, hi64 _ (by omega) (by omega)⟩, ?_⟩
  conv => whnf
  rw [hlen]
  repeat (refine ⟨gP_of ⟨by omega, by omega⟩, ?_⟩; conv => whnf)
  rw [hlen, hq]
  refine ⟨gP_of ⟨by omega, hi64 _ (by omega) (by omega)⟩, ?_⟩
  conv => whnf
  skip
  refine ⟨⟨by omega, by rw [hlen]; unfold AMAX; omega⟩, ?_⟩
  intro bW
  obtain ⟨c, hcq⟩ := get_lt (show q < cells.length by omega)
  have hr := check_right d3
  have hcv := (right_iff.1 hr).2.1 c (List.mem_of_getElem? hcq)
  have c1 := hcv.mn; have c2 := hcv.mx; have c3 := hcv.gap
  rw [hlen]
  obtain ⟨C1, hC1⟩ : ∃ C1, C1 = (⟨max 0 (c.mn - max 0 (min fw 3)), c.mx, c.signs⟩ : Cel) := ⟨_, rfl⟩
  obtain ⟨C2, hC2⟩ : ∃ C2, C2 = (⟨max 0 (c.mn - max 0 (min fw 3)), c.mx + max 0 (min mr 3), c.signs⟩ : Cel) := ⟨_, rfl⟩
  have hl1 := flat_len cells
  have hl2 := flat_len (cells.set q C1)
  have hl3 := flat_len (cells.set q C2)
  rw [List.length_set] at hl2 hl3
  have hq1 : (cells.set q C1)[q]? = some C1 := by rw [List.getElem?_set_self (by omega)]
  have hq2 : (cells.set q C2)[q]? = some C2 := by rw [List.getElem?_set_self (by omega)]
  have hv0 : ((cells.map encCel).flatten)[0 + q * 3 + 0]? = some (.int .i64 c.mn) := by rw [Nat.zero_add, flat_get hcq (by omega)]; rfl
  have hv1 : (((cells.set q C1).map encCel).flatten)[0 + q * 3 + 1]? = some (.int .i64 c.mx) := by rw [Nat.zero_add, flat_get hq1 (by omega), hC1]; rfl
  have hs0 : ((cells.map encCel).flatten).set (0 + q * 3 + 0) (.int .i64 (max 0 (c.mn - max 0 (min fw 3)))) = ((cells.set q C1).map encCel).flatten := by rw [Nat.zero_add, flat_set hcq (by omega) (d := C1) (by rw [hC1]; rfl)]
  have hs1 : (((cells.set q C1).map encCel).flatten).set (0 + q * 3 + 1) (.int .i64 (c.mx + max 0 (min mr 3))) = ((cells.set q C2).map encCel).flatten := by rw [Nat.zero_add, flat_set hq1 (by omega) (d := C2) (by rw [hC1, hC2]; rfl), List.set_set]
  have hs2 : (((cells.set q C2).map encCel).flatten).set (0 + q * 3 + 2) .nilS = (((cells.set q C2).map encCel).set q [.int .i64 C2.mn, .int .i64 C2.mx, .nilS]).flatten := by rw [Nat.zero_add, flat_setR (encCel_len _) (row := encCel C2) (by rw [List.getElem?_map, hq2]; rfl) (by omega)]; rfl
  have hu0 : Upd bW (.vec (cells.map encCel).flatten) bW (.vec ((cells.map encCel).flatten.set (0 + q * 3 + 0) (.int .i64 (max 0 (c.mn - max 0 (min fw 3)))))) [(bW, .vec (cells.map encCel).flatten)] [(bW, .vec ((cells.set q C1).map encCel).flatten)] := by rw [hs0]; exact .here _
  have hu1 : Upd bW (.vec ((cells.set q C1).map encCel).flatten) bW (.vec (((cells.set q C1).map encCel).flatten.set (0 + q * 3 + 1) (.int .i64 (c.mx + max 0 (min mr 3))))) [(bW, .vec ((cells.set q C1).map encCel).flatten)] [(bW, .vec ((cells.set q C2).map encCel).flatten)] := by rw [hs1]; exact .here _
  have hu2 : Upd bW (.vec ((cells.set q C2).map encCel).flatten) bW (.vec (((cells.set q C2).map encCel).flatten.set (0 + q * 3 + 2) .nilS)) [(bW, .vec ((cells.set q C2).map encCel).flatten)] [(bW, .vec (((cells.set q C2).map encCel).set q [.int .i64 C2.mn, .int .i64 C2.mx, .nilS]).flatten)] := by rw [hs2]; exact .here _
  have hst0 : 0 + q * 3 + 0 < ((cells.map encCel).flatten).length := by omega
  have hst1 : 0 + q * 3 + 1 < (((cells.set q C1).map encCel).flatten).length := by omega
  have hst2 : 0 + q * 3 + 2 < (((cells.set q C2).map encCel).flatten).length := by omega
  conv => whnf
  repeat ((first | refine ⟨gP_of ⟨by omega, by omega⟩, ?_⟩ | (refine ixo (i := q) (by omega) ?_) | (refine ldo (v := .int .i64 c.mn) (.head _) rfl hv0 ?_) | (refine sto hst0 hu0 ?_)
                 | (refine ldo (v := .int .i64 c.mx) (.head _) rfl hv1 ?_) | (refine sto hst1 hu1 ?_) | refine And.intro (by show drawOK (opsAt Try.f10 _) _ = true; decide +kernel) ?_); conv => whnf)
  obtain ⟨CW, hCW⟩ : ∃ CW, CW = widen c fw mr fr := ⟨_, rfl⟩
  obtain ⟨WD, hWD⟩ : ∃ WD, WD = cells.set q CW := ⟨_, rfl⟩
  have hwf : CelsFit WD := by
    rw [hWD]
    refine ⟨by rw [List.length_set]; exact hcl, fun d hd => ?_⟩
    rcases List.mem_or_eq_of_mem_set hd with h | h
    · exact hc.signs d h
    · have := hc.signs c (List.mem_of_getElem? hcq)
      rw [h, hCW]; unfold widen; simp only; split
      · exact Nat.zero_le _
      · exact this
  have hmono : right l.signs.length WD = true → ∀ w, acc cells 0 w = true → acc WD 0 w = true := fun h2 w ha => by
    rw [hWD, hCW] at h2 ⊢
    exact set_acc hcq hr h2 w ha
  have hfz : ∀ xs : List (List AV), xs.flatten = ([] : List (List AV)).flatten ++ xs.flatten ++ ([] : List (List AV)).flatten := fun xs => by simp
  refine ⟨fun hfr => ?_, fun hfr => ?_⟩
  · conv => whnf
    repeat ((first | (refine ixo (i := q) (by omega) ?_) | (refine sto hst2 hu2 ?_)); conv => whnf)
    have hle : VssLe (((cells.set q C2).map encCel).set q [.int .i64 C2.mn, .int .i64 C2.mx, .nilS]) (WD.map encCel) := by
      rw [hWD, List.map_set, List.map_set, List.set_set]
      refine VssLe.setAt ?_ _ _
      rw [hCW, hC2]
      unfold widen
      rw [hfr]
      exact .cons (VLe.refl _) (.cons (VLe.refl _) (.cons (VLe.nil (by decide)) .nil))
    refine region_turn rfl mixed (Turn.trans (Turn.freeze (.here _) .nil (.cons (.refl _) (.cons (.refl _) (.cons (.refl _) (.cons (.refl _) (.cons (.refl _) (.cons (.refl _) (.cons (.refl _) (.cons (.row (k := 3) (pre := []) (post := []) (xs' := []) (hfz _) rfl (by simp) (fun x hx => ?_)) (FzR.refl _))))))))))
      (Turn.weak (.cons (VLe.refl _) (.cons (VLe.refl _) (.cons (VLe.refl _) (.cons (VLe.refl _) (.cons (VLe.refl _) (.cons (VLe.refl _) (.cons (VLe.refl _) (.cons (VLe.els (k := 3) hle) (RLe.refl _))))))))))) ?_
    · rcases List.mem_or_eq_of_mem_set hx with h | h
      · exact encCel_len _ x h
      · rw [h]; rfl
    conv => whnf
    repeat ((first | refine QCall.k0 (heavyW l WD par hl hwf hP) ?_ | refine gcall (refCheckW' l WD hl hwf) ?_); conv => whnf)
    refine ⟨fun hx => ?_, fun hx => ?_⟩
    · conv => whnf
      repeat (refine QCall.k0 (works) ?_; conv => whnf)
    simp only [Bool.or_eq_false_iff, Bool.not_eq_false', decide_eq_true_eq] at hx
    obtain ⟨x1, x2⟩ := hx
    have hr2 := check_right x2
    conv => whnf
    repeat ((first | refine QCall.k0 (wallAgrees l cells ln hl hc hN) ?_ | refine QCall.k0 (wallAgrees l WD ln hl hwf hN) ?_); conv => whnf)
    refine cF (by
      simp only [Bool.and_eq_false_iff, decide_eq_false_iff_not, Bool.not_eq_false', decide_eq_true_eq]
      by_cases h : (agrees l cells ln).2 = 0
      · right
        obtain ⟨a1, a2, a3, a4, a5⟩ := agrees_fit h
        refine agrees_zero.2 ⟨x2, a3, ?_⟩
        rw [fit_acc hr2]; exact hmono hr2 ln a4
      · left; exact h) ?_
    conv => whnf
    repeat ((first | refine QCall.k0 (countW B hB l cells hl hc) ?_ | refine QCall.k0 (countW B hB l WD hl hwf) ?_); conv => whnf)
    refine cF (by
      have : countR B l cells ≤ countR B l WD := by
        unfold countR
        rw [if_pos d3, if_pos x2]
        have := tot_le (n := l.signs.length) (hmono hr2) B
        omega
      simp only [d3, x2, decide_true, Bool.not_true, Bool.false_or, decide_eq_false_iff_not]; omega) ?_
    conv => whnf
    repeat ((first | refine QCall.k0 (restW l cells par hl hc hP) ?_ | refine QCall.k0 (restW l WD par hl hwf hP) ?_ | refine gcall (works) ?_ | refine ⟨_, _, Rem.here _, ⟨Nat.le_of_ble_eq_true rfl, rfl⟩, ?_⟩
                   | intro (nb : Nat)); conv => whnf)
    refine congrArg AV.bool ?_
    by_cases he : lineErr l.signs.length par = 0
    · have e1 : checkErr1 l cells par = 0 := check1_iff.2 ⟨d3, he⟩
      have e2 : checkErr1 l WD par = 0 := check1_iff.2 ⟨x2, he⟩
      have hpl := (line_ok he).1
      obtain ⟨w, ws, h1⟩ := all_ne (par := par) (by omega) hr hpl
      obtain ⟨v, vs, h2⟩ := all_ne (par := par) (by omega) hr2 hpl
      have hw : w ∈ allLines l.signs.length cells par := by rw [h1]; simp
      obtain ⟨g1, g2⟩ := (mem_all hr hpl).1 hw
      have hle := head_least h2 ((mem_all hr2 hpl).2 ⟨g1, hmono hr2 w g2⟩)
      have q1 : (restR l cells par).changes = dist w par := by unfold restR; rw [if_pos e1, h1]; rfl
      have q2 : (restR l WD par).changes = dist v par := by unfold restR; rw [if_pos e2, h2]; rfl
      rw [e1, e2, q1, q2]
      simp [hle]
    · have e1 : checkErr1 l cells par = lineErr l.signs.length par := by unfold checkErr1; rw [if_neg (by simpa using d3)]
      have e2 : checkErr1 l WD par = lineErr l.signs.length par := by unfold checkErr1; rw [if_neg (by simpa using x2)]
      rw [e1, e2]
      simp [he]
  · conv => whnf
    have hwd : WD = cells.set q C2 := by
      rw [hWD, hCW, hC2]
      unfold widen
      rw [hfr]; rfl
    refine region_turn rfl mixed (Turn.freeze (.here _) .nil (.cons (.refl _) (.cons (.refl _) (.cons (.refl _) (.cons (.refl _) (.cons (.refl _) (.cons (.refl _) (.cons (.refl _) (.cons (.row (k := 3) (xs := WD.map encCel) (pre := []) (post := []) (xs' := []) (by rw [hwd]; exact hfz _) rfl (by rw [hwd]; simp) (encCel_len _)) (FzR.refl _)))))))))) ?_
    conv => whnf
    repeat ((first | refine QCall.k0 (heavyW l WD par hl hwf hP) ?_ | refine gcall (refCheckW' l WD hl hwf) ?_); conv => whnf)
    refine ⟨fun hx => ?_, fun hx => ?_⟩
    · conv => whnf
      repeat (refine QCall.k0 (works) ?_; conv => whnf)
    simp only [Bool.or_eq_false_iff, Bool.not_eq_false', decide_eq_true_eq] at hx
    obtain ⟨x1, x2⟩ := hx
    have hr2 := check_right x2
    conv => whnf
    repeat ((first | refine QCall.k0 (wallAgrees l cells ln hl hc hN) ?_ | refine QCall.k0 (wallAgrees l WD ln hl hwf hN) ?_); conv => whnf)
    refine cF (by
      simp only [Bool.and_eq_false_iff, decide_eq_false_iff_not, Bool.not_eq_false', decide_eq_true_eq]
      by_cases h : (agrees l cells ln).2 = 0
      · right
        obtain ⟨a1, a2, a3, a4, a5⟩ := agrees_fit h
        refine agrees_zero.2 ⟨x2, a3, ?_⟩
        rw [fit_acc hr2]; exact hmono hr2 ln a4
      · left; exact h) ?_
    conv => whnf
    repeat ((first | refine QCall.k0 (countW B hB l cells hl hc) ?_ | refine QCall.k0 (countW B hB l WD hl hwf) ?_); conv => whnf)
    refine cF (by
      have : countR B l cells ≤ countR B l WD := by
        unfold countR
        rw [if_pos d3, if_pos x2]
        have := tot_le (n := l.signs.length) (hmono hr2) B
        omega
      simp only [d3, x2, decide_true, Bool.not_true, Bool.false_or, decide_eq_false_iff_not]; omega) ?_
    conv => whnf
    repeat ((first | refine QCall.k0 (restW l cells par hl hc hP) ?_ | refine QCall.k0 (restW l WD par hl hwf hP) ?_ | refine gcall (works) ?_ | refine ⟨_, _, Rem.here _, ⟨Nat.le_of_ble_eq_true rfl, rfl⟩, ?_⟩
                   | intro (nb : Nat)); conv => whnf)
    refine congrArg AV.bool ?_
    by_cases he : lineErr l.signs.length par = 0
    · have e1 : checkErr1 l cells par = 0 := check1_iff.2 ⟨d3, he⟩
      have e2 : checkErr1 l WD par = 0 := check1_iff.2 ⟨x2, he⟩
      have hpl := (line_ok he).1
      obtain ⟨w, ws, h1⟩ := all_ne (par := par) (by omega) hr hpl
      obtain ⟨v, vs, h2⟩ := all_ne (par := par) (by omega) hr2 hpl
      have hw : w ∈ allLines l.signs.length cells par := by rw [h1]; simp
      obtain ⟨g1, g2⟩ := (mem_all hr hpl).1 hw
      have hle := head_least h2 ((mem_all hr2 hpl).2 ⟨g1, hmono hr2 w g2⟩)
      have q1 : (restR l cells par).changes = dist w par := by unfold restR; rw [if_pos e1, h1]; rfl
      have q2 : (restR l WD par).changes = dist v par := by unfold restR; rw [if_pos e2, h2]; rfl
      rw [e1, e2, q1, q2]
      simp [hle]
    · have e1 : checkErr1 l cells par = lineErr l.signs.length par := by unfold checkErr1; rw [if_neg (by simpa using d3)]
      have e2 : checkErr1 l WD par = lineErr l.signs.length par := by unfold checkErr1; rw [if_neg (by simpa using x2)]
      rw [e1, e2]
      simp [he]
theorem lawWider (l : Lst) (cells : List Cel) (at' fw mr : Int) (fr : Bool) (par ln : List Int) (hl : LstFit l) (hc : CelsFit cells) (hp : par.length ≤ 1048576) (hn : ln.length ≤ 1048576) (ia : IntKind.i64.has at') (ib : IntKind.i64.has fw) (ic : IntKind.i64.has mr) :
    QCall Try.prog 10 [.agg (encLst l), .sl 3 none (cells.map encCel), .agg [.int .i64 at', .int .i64 fw, .int .i64 mr, .bool fr, .sl 1 none (ints par), .sl 1 none (ints ln)]] [] (.bool true) :=
  lawWider' 450 (by decide) l cells at' fw mr fr par ln hl hc hp hn ia ib ic
end Go.Abs.Wall
