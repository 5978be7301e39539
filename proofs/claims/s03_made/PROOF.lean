import PyProof.Rows.All
import Wide.All
import OpenK.AllK
import Wide.FinOn
import PyProof.EqAt
import PyProof.EqKinds
import PyProof.TupleCall
import Open.SpecLaws
import KE.OsGo
import HandS.ForSpec
import HandS.ForMost
import HandS.Evl
import PySem.Challenge.RW_risingtables_s03_made
set_option Elab.async false
set_option linter.all false
set_option maxRecDepth 100000
set_option maxHeartbeats 4000000
namespace RT
open PySem PySem.Spec PyProof.Rows L2 Evl

/-! ### values, promises, calls -/
def vN (k : Nat) : V := .int (k : Int)
/-- a def that stands at its name and keeps its promise -/
structure Rdy (P : Program) (w : World) (K : PySem.W.Frag) (mg : Str → Option Value) (base : Heap) (x : Str) (k : Nat) (ps : List Str) (sp : Sp) : Prop where
  ex : ∃ f fd, mg x = some (.ref f) ∧ PySem.W.keepIn K (.ref f) = true ∧ Binds K fd ps [] ∧ FnOk P w K mg base CX0 k f fd ps sp
theorem pe_rdy {X : Cx} {k : Nat} {x : Str} {ps : List Str} {sp : Sp} {p pos : Pos} {e : Expr} {es : List Expr} {t : TA} (R : Rdy X.prog X.w X.K X.mg X.base x k ps sp) (hr : Room k X.A) (hg : Gl X x) (ha : PA X (e :: es) t)
    (hdb : (x == ("__debug__" : Str)) = false := by decide) (he : starEach (e :: es) X.env = (false, eval e X.env) :: starEach es X.env := by rfl) (hpl : (backTo pos (starEach es X.env)).any (·.1) = false := by rfl) :
    PE X (.Call (.Name x p) (e :: es) [] pos) (tCall sp [] E0 t) := by
  obtain ⟨f, fd, hm, hk, hb, F⟩ := R.ex
  exact pe_call F hr hg hm hk hb .nil pass0 ha hdb he hpl
/-- hands back a value -/
def pV (R : Hp → List V → V → Prop) : Sp := fun vs H Q _ => ∃ z, R H vs z ∧ ∀ H', Ex H H' → Q z H'
/-- hands back a new list -/
def pL (R : Hp → List V → List V → Prop) : Sp := fun vs H Q _ => ∃ xs, R H vs xs ∧ ∀ p H', H p = none → Ex H H' → H' p = some (.lst xs) → Q (.ref p) H'
section
variable {K : PySem.W.Frag} {σ : L2.St} {H : Hp} {ta : TA} {E : XK}
theorem ev_rdy {R : Hp → List V → V → Prop} {vs : List V} {z : V} (h : EvA ta σ H vs) (hR : ∀ H1, Ex H H1 → R H1 vs z) : Ev (tCall (pV R) [] E ta) σ H z :=
  ev_call h fun H1 e Q q E => ⟨z, by rw [List.append_nil]; exact hR H1 e, q⟩
theorem el_rdy {R : Hp → List V → List V → Prop} {vs xs : List V} (h : EvA ta σ H vs) (hR : ∀ H1, Ex H H1 → R H1 vs xs) : EvL (tCall (pL R) [] E ta) σ H xs :=
  el_call h fun H1 e Q q E => ⟨xs, by rw [List.append_nil]; exact hR H1 e, q⟩
end
theorem el_is {te : TE} {σ : L2.St} {H : Hp} {xs ys : List V} (h : EvL te σ H xs) (e : xs = ys) : EvL te σ H ys := by
  rw [← e]
  exact h

/-! ### comprehensions over lists of numbers -/
theorem range_getD {α : Type} (d : α) : ∀ l : List α, (List.range l.length).map (fun i => l.getD i d) = l := by
  intro l
  apply List.ext_getElem?
  intro i
  by_cases h : i < l.length
  · simp [h]
  · simp [h, Nat.not_lt.mp h]
theorem given_nats (ys : List Nat) (p : Nat → Bool) (q : Nat → V) (n : Nat) (hn : n = ys.length) : given n (fun i => p (ys.getD i 0)) (fun i => q (ys.getD i 0)) = (ys.filter p).map q := by
  subst hn
  unfold given
  have e := range_getD 0 ys
  have e2 : ((List.range ys.length).map (fun i => ys.getD i 0)).filter p = ys.filter p := by rw [e]
  rw [List.filter_map] at e2
  rw [← e2, List.map_map]
  rfl
theorem getD_of {ys : List Nat} {i : Nat} {x : V} (h : (ys.map vN)[i]? = some x) : x = vN (ys.getD i 0) := by
  rw [List.getElem?_map] at h
  cases e : ys[i]? with
  | none => rw [e] at h; cases h
  | some y =>
    rw [e] at h
    rw [List.getD_eq_getElem?_getD, e]
    exact (Option.some.inj h).symm
theorem len_filter_le {ys : List Nat} {p : Nat → Bool} : (ys.filter p).length ≤ ys.length := List.length_filter_le p ys

/-! ### lists compared with the empty list -/
def isNil {α : Type} : List α → Bool
  | [] => true
  | _ :: _ => false
theorem isNil_map {α β : Type} (f : α → β) (l : List α) : isNil (l.map f) = isNil l := by cases l <;> rfl
theorem isNil_filter {α : Type} (p : α → Bool) (l : List α) : isNil (l.filter p) = l.all (fun x => !p x) := by
  induction l with
  | nil => rfl
  | cons a l ih =>
    rw [List.filter_cons, List.all_cons]
    cases h : p a with
    | true => rfl
    | false => exact ih
theorem lay_ints : ∀ ns : List Int, PyData.canLayAll0 (ns.map PyData.int) = true
  | [] => by simp [PyData.canLayAll0]
  | n :: r => by
    rw [List.map_cons, PyData.canLayAll0, lay_ints r, PyData.canLay0] <;> rfl
theorem depth_ints : ∀ ns : List Int, PyData.depthAll (ns.map PyData.int) ≤ 1
  | [] => by simp [PyData.depthAll]
  | n :: r => by
    have ih := depth_ints r
    rw [List.map_cons, PyData.depthAll, PyData.depth]
    omega
theorem shaped_ints (ns : List Int) : SeqAt.shaped (.list (ns.map PyData.int)) = true := by
  unfold SeqAt.shaped
  rw [Bool.and_eq_true]
  refine ⟨?_, decide_eq_true ?_⟩
  · rw [PyData.canLay0]
    exact lay_ints ns
  · have := depth_ints ns
    rw [PyData.depth]
    omega
theorem dp_ints {K : PySem.W.Frag} {H : Hp} : ∀ ns : List Int, DpAll K H (ns.map V.int) (ns.map PyData.int)
  | [] => .nil
  | n :: r => .cons (.int n) (dp_ints r)
theorem eqv_nil (ns : List Int) : PyData.eqv (.list (ns.map PyData.int)) (.list []) = isNil ns := by
  cases ns with
  | nil => decide +kernel
  | cons n r =>
    rw [List.map_cons]
    simp [PyData.eqv, PyData.eqvAll, isNil]
section
variable {K : PySem.W.Frag} {σ : L2.St} {H : Hp} {ta tb : TE}
/-- [..] == [] -/
theorem ev_eqNil {ns : List Nat} (ha : EvL ta σ H (ns.map vN)) : Ev (tOp (rEqD K) ta (tLst tNil)) σ H (.bl (isNil ns)) :=
  ev_opLL ha (el_lst ea_nil (Nat.zero_le _)) fun p q H1 hp hq _ => fun H2 e2 Q k => by
    have hm : ns.map vN = (ns.map fun (k : Nat) => (k : Int)).map V.int := by rw [List.map_map]; rfl
    rw [hm] at hp
    refine ⟨_, .list [], .lst (ex_l e2 (sq_of hp)) (dp_ints _), .lst (ex_l e2 (sq_of hq)) .nil, shaped_ints _, shaped_ints [], ?_⟩
    rw [eqv_nil, isNil_map]
    exact k H2 (Ex.refl H2)
/-- [..] != [] -/
theorem ev_neNil {ns : List Nat} (ha : EvL ta σ H (ns.map vN)) : Ev (tOp (rNeD K) ta (tLst tNil)) σ H (.bl (!isNil ns)) :=
  ev_opLL ha (el_lst ea_nil (Nat.zero_le _)) fun p q H1 hp hq _ => fun H2 e2 Q k => by
    have hm : ns.map vN = (ns.map fun (k : Nat) => (k : Int)).map V.int := by rw [List.map_map]; rfl
    rw [hm] at hp
    refine ⟨_, .list [], .lst (ex_l e2 (sq_of hp)) (dp_ints _), .lst (ex_l e2 (sq_of hq)) .nil, shaped_ints _, shaped_ints [], ?_⟩
    rw [eqv_nil, isNil_map]
    exact k H2 (Ex.refl H2)
end

/-! ### numbers -/
def bt (t x : Nat) : Nat := t / 2 ^ x % 2
theorem bt_eq (t x : Nat) : bt t x = (t.testBit x).toNat := by
  unfold bt
  rw [Nat.testBit_eq_decide_div_mod_eq]
  have h := Nat.mod_two_eq_zero_or_one (t / 2 ^ x)
  rcases h with h | h <;> rw [h] <;> rfl
theorem bt_zero {t x : Nat} : decide (vN (bt t x) = V.int 0) = !t.testBit x := by
  rw [bt_eq]
  cases t.testBit x <;> decide
theorem bt_one {t x : Nat} : decide (vN (bt t x) = V.int 1) = t.testBit x := by
  rw [bt_eq]
  cases t.testBit x <;> decide
theorem shr_nat (t x : Nat) : V.int ((t : Int) / 2 ^ (x : Int).toNat % 2) = vN (bt t x) := by
  unfold vN bt
  rw [Int.toNat_natCast]
  norm_cast
theorem shl_nat (a x : Nat) : V.int ((a : Int) * 2 ^ (x : Int).toNat) = vN (a * 2 ^ x) := by
  unfold vN
  rw [Int.toNat_natCast]
  norm_cast
theorem pow_le_64 {n : Nat} (h : n ≤ 6) : 2 ^ n ≤ 64 := Nat.pow_le_pow_right (n := 2) (by decide) h
theorem cpow_nat {a x : Nat} (hx : x ≤ 1000) (ha : a < 2 ^ 64) : CPow (a : Int) (x : Int) := ⟨Int.natCast_nonneg _, by omega, by rw [Int.natAbs_natCast]; exact ha⟩

/-! ### the tables as sums -/
def tabTo (f : Nat → Bool) (i : Nat) : Nat := ((List.range i).map fun x => if f x = true then 2 ^ x else 0).sum
theorem tabTo_succ (f : Nat → Bool) (i : Nat) : tabTo f (i + 1) = tabTo f i + if f i = true then 2 ^ i else 0 := by
  unfold tabTo
  rw [List.range_succ, List.map_append, List.sum_append]
  simp
theorem table_tabTo (n : Nat) (f : Nat → Bool) : Sv84.table n f = tabTo f (2 ^ n) := rfl
end RT
namespace RT
open PySem PySem.Spec PyProof.Rows L2 Evl
section
variable {K : PySem.W.Frag} {σ : L2.St} {H : Hp} {ta tb tc te : TE} {t : TT}
theorem ev_chain {r r' : R2} {x y z : V} {a b : Bool} (ha : Ev ta σ H x) (hb : Ev tb σ H y) (hr : RV r x y H (.bl a)) (hc : Ev tc σ H z) (hr' : RV r' y z H (.bl b)) : Ev (tChain r r' ta tb tc) σ H (.bl (a && b)) := fun H1 e Q q =>
  ha H1 e _ fun H2 e2 => hb H2 (e.trans e2) _ fun H3 e3 => hr H3 ((e.trans e2).trans e3) _ fun H4 e4 => ⟨a, rfl, by
    cases a with
    | true =>
      show tc σ H4 fun w' H5 => r' y w' H5 Q
      exact hc H4 (((e.trans e2).trans e3).trans e4) _ fun H5 e5 => hr' H5 ((((e.trans e2).trans e3).trans e4).trans e5) Q fun H6 e6 => q H6 (((((e2.trans e3).trans e4).trans e5)).trans e6)
    | false =>
      show Q (.bl false) H4
      exact q H4 ((e2.trans e3).trans e4)⟩
theorem el_if {b : Bool} {xs : List V} (h : EvT t σ H b) (h1 : b = true → EvL ta σ H xs) (h2 : b = false → EvL tb σ H xs) : EvL (tIf t ta tb) σ H xs := fun H1 e Q q => h H1 e _ fun H2 e2 => by
  cases b with
  | true =>
    show ta σ H2 Q
    exact h1 rfl H2 (e.trans e2) Q fun p H3 hp e3 h3 => q p H3 (fresh_back e2 hp) (e2.trans e3) h3
  | false =>
    show tb σ H2 Q
    exact h2 rfl H2 (e.trans e2) Q fun p H3 hp e3 h3 => q p H3 (fresh_back e2 hp) (e2.trans e3) h3
end
/-- the asked def's own promise: a list that holds the answer -/
def pT (S : Hp → List V → List Int → Prop) : Sp := fun vs H Q _ => ∃ out, S H vs out ∧ ∀ H' p, H' p = some (.lst (out.map V.int)) → Q (.ref p) H'

/-! ### refusals -/
def refus (n t : Int) : Int := if Sv84.sizeOk n = true then (if t < ((2 ^ 2 ^ n.toNat : Nat) : Int) then 0 else -3) else -2
theorem size_nat {n : Int} (h : Sv84.sizeOk n = true) : ∃ m : Nat, n = (m : Int) ∧ m ≤ 6 := by
  unfold Sv84.sizeOk Sv84.between at h
  rw [Bool.and_eq_true, decide_eq_true_eq, decide_eq_true_eq] at h
  exact ⟨n.toNat, by omega, by omega⟩
theorem refus_ok {n t : Int} (h : ¬ refus n t < 0) (ht : 0 ≤ t) : ∃ m u : Nat, n = (m : Int) ∧ m ≤ 6 ∧ t = (u : Int) ∧ u < 2 ^ 2 ^ m := by
  unfold refus at h
  by_cases h1 : Sv84.sizeOk n = true
  · rw [if_pos h1] at h
    obtain ⟨m, rfl, hm⟩ := size_nat h1
    rw [Int.toNat_natCast] at h
    by_cases h2 : t < ((2 ^ 2 ^ m : Nat) : Int)
    · exact ⟨m, t.toNat, rfl, hm, by omega, by omega⟩
    · rw [if_neg h2] at h
      exact absurd (by decide) h
  · rw [if_neg h1] at h
    exact absurd (by decide) h
theorem on_refus {n t : Int} (ht : 0 ≤ t) (x : Unit → List Int) : Sv84Neutral.on (Sv84.sizeOk n) (Sv84.fits n.toNat t.toNat) x = if refus n t < 0 then [refus n t] else x () := by
  unfold Sv84Neutral.on refus Sv84.fits
  cases h1 : Sv84.sizeOk n with
  | false => rfl
  | true =>
    rw [if_neg (by decide), if_pos rfl]
    generalize (2 ^ 2 ^ n.toNat : Nat) = N
    by_cases h2 : t < (N : Int)
    · rw [if_pos h2, decide_eq_true (show t.toNat < N by omega), if_neg (by decide), if_neg (by decide)]
    · rw [if_neg h2, decide_eq_false (show ¬ t.toNat < N by omega), if_pos rfl, if_pos (by decide)]
end RT
namespace RT
open PySem PySem.Spec PyProof.Rows L2 Evl
/-! ### the neighbours of a set -/
def aboveN (n x : Nat) : List Nat := ((List.range n).filter fun e => !x.testBit e).map fun e => x + 2 ^ e
def belowN (n x : Nat) : List Nat := ((List.range n).filter fun e => x.testBit e).map fun e => x - 2 ^ e
theorem aboveN_len (n x : Nat) : (aboveN n x).length ≤ n := by
  unfold aboveN
  rw [List.length_map]
  have h := List.length_filter_le (fun e => !x.testBit e) (List.range n)
  rw [List.length_range] at h
  exact h
theorem belowN_len (n x : Nat) : (belowN n x).length ≤ n := by
  unfold belowN
  rw [List.length_map]
  have h := List.length_filter_le (fun e => x.testBit e) (List.range n)
  rw [List.length_range] at h
  exact h
theorem all_filter {α : Type} (p q : α → Bool) (l : List α) : (l.filter p).all q = l.all fun x => !p x || q x := by
  induction l with
  | nil => rfl
  | cons a l ih =>
    rw [List.filter_cons, List.all_cons]
    cases h : p a with
    | true => rw [if_pos rfl, List.all_cons, ih] <;> rfl
    | false => rw [if_neg (by decide), ih] <;> rfl
theorem all_map {α β : Type} (f : α → β) (q : β → Bool) (l : List α) : (l.map f).all q = l.all fun x => q (f x) := by
  induction l with
  | nil => rfl
  | cons a l ih => rw [List.map_cons, List.all_cons, List.all_cons, ih]
theorem all_or {α : Type} (b : Bool) (q : α → Bool) (l : List α) (h : b = false ∨ l ≠ [] ∨ True) : (l.all fun x => b || q x) = (b || l.all q) := by
  cases b with
  | true => simp
  | false => simp
theorem all_congr {α : Type} {p q : α → Bool} {l : List α} (h : ∀ x ∈ l, p x = q x) : l.all p = l.all q := by
  induction l with
  | nil => rfl
  | cons a l ih => rw [List.all_cons, List.all_cons, h a (List.mem_cons_self ..), ih fun x hx => h x (List.mem_cons_of_mem _ hx)]
def riseAt (n t x : Nat) : Bool := !t.testBit x || (aboveN n x).all fun y => t.testBit y
def isRis (n t : Nat) : Bool := (List.range (2 ^ n)).all fun x => riseAt n t x
theorem isRis_is (n t : Nat) : isRis n t = Sv84.rises n t := by
  unfold isRis Sv84.rises Sv84.sets Sv84.gives
  refine all_congr fun x _ => ?_
  unfold riseAt aboveN
  rw [all_map, all_filter, all_or _ _ _ (.inr (.inr trivial))]
  congr 1
  refine all_congr fun e _ => ?_
  rw [Bool.not_not]
def leastAt (n t x : Nat) : Bool := t.testBit x && (belowN n x).all fun y => !t.testBit y
def leastTo (n t i : Nat) : List Nat := (List.range i).filter fun x => leastAt n t x
theorem leastTo_is (n t : Nat) : leastTo n t (2 ^ n) = Sv84.least n t := by
  unfold leastTo Sv84.least Sv84.sets Sv84.gives
  refine List.filter_congr fun x _ => ?_
  unfold leastAt belowN
  rw [all_map, all_filter]
theorem leastTo_len (n t i : Nat) : (leastTo n t i).length ≤ i := by
  unfold leastTo
  have h := List.length_filter_le (fun x => leastAt n t x) (List.range i)
  rw [List.length_range] at h
  exact h
theorem leastTo_yes {n t i : Nat} (h : leastAt n t i = true) : leastTo n t (i + 1) = leastTo n t i ++ [i] := by
  unfold leastTo
  rw [List.range_succ, List.filter_append, List.filter_cons, if_pos h] <;> rfl
theorem leastTo_no {n t i : Nat} (h : leastAt n t i = false) : leastTo n t (i + 1) = leastTo n t i := by
  unfold leastTo
  rw [List.range_succ, List.filter_append, List.filter_cons, if_neg (by rw [h]; decide), List.filter_nil, List.append_nil]
theorem pow_le_of_bit {x e : Nat} (h : x.testBit e = true) : 2 ^ e ≤ x := by
  apply Nat.le_of_not_lt
  intro hlt
  rw [Nat.testBit_lt_two_pow hlt] at h
  cases h
theorem bitAnd_nat (a b : Nat) : Builtin.bitAnd (a : Int) (b : Int) = ((a &&& b : Nat) : Int) := by
  unfold Builtin.bitAnd
  rw [decide_eq_true (Int.natCast_nonneg a), decide_eq_true (Int.natCast_nonneg b)]
  rfl
theorem bitOr_nat (a b : Nat) : Builtin.bitOr (a : Int) (b : Int) = ((a ||| b : Nat) : Int) := by
  have h1 : ∀ c : Nat, Builtin.bitNot (Builtin.bitNot (c : Int)) = (c : Int) := fun c => by
    unfold Builtin.bitNot
    omega
  have h2 : ∀ c : Nat, ¬ 0 ≤ Builtin.bitNot (c : Int) := fun c => by
    unfold Builtin.bitNot
    omega
  unfold Builtin.bitOr Builtin.bitAnd
  rw [decide_eq_false (h2 a), decide_eq_false (h2 b)]
  show Builtin.bitNot (Builtin.bitNot (((Builtin.bitNot (Builtin.bitNot (a : Int))).toNat ||| (Builtin.bitNot (Builtin.bitNot (b : Int))).toNat : Nat) : Int)) = _
  rw [h1 a, h1 b, h1, Int.toNat_natCast, Int.toNat_natCast]
theorem vN_eq (a b : Nat) : decide (vN a = vN b) = (a == b) := by
  by_cases h : a = b
  · subst h
    rw [decide_eq_true rfl, beq_self_eq_true]
  · rw [decide_eq_false (show ¬ vN a = vN b from fun e => h (Int.ofNat_inj.mp (V.int.inj e)))]
    exact (beq_eq_false_iff_ne.mpr h).symm
theorem sum_cast : ∀ ns : List Nat, (ns.map fun (k : Nat) => (k : Int)).sum = ((ns.sum : Nat) : Int)
  | [] => rfl
  | n :: r => by
    rw [List.map_cons, List.sum_cons, List.sum_cons, sum_cast r, Int.natCast_add]
theorem map_vN (ns : List Nat) : ns.map vN = (ns.map fun (k : Nat) => (k : Int)).map V.int := by
  rw [List.map_map]
  rfl
section
variable {K : PySem.W.Frag} {σ : L2.St} {H : Hp} {ta tb tc te : TE} {t : TT}
theorem ev_sumN {ns : List Nat} (ha : EvL ta σ H (ns.map vN)) : Ev (tCB (rSum K) (tCons ta tNil)) σ H (vN ns.sum) := fun H1 e Q q =>
  ha H1 e _ fun p H2 _ e2 h2 => ⟨p, ns.map fun (k : Nat) => (k : Int), rfl, sq_of (by rw [h2, map_vN]), by rw [sum_cast]; exact q H2 e2⟩
/-- [..] + xs -/
theorem el_cat {b : Addr} {xs zs : List V} (ha : EvL ta σ H xs) (hb : Ev tb σ H (.ref b)) (hz : H b = some (.lst zs)) (hl : xs.length + zs.length ≤ 100000) : EvL (tOp rCat ta tb) σ H (xs ++ zs) := fun H1 e Q q =>
  ha H1 e _ fun p H2 hp e2 h2 => hb H2 (e.trans e2) _ fun H3 e3 => ⟨p, b, xs, zs, rfl, rfl, e3 p _ h2, ((e.trans e2).trans e3) b _ hz, sz_of hl, fun r hr => q r _ (fresh_back (e2.trans e3) hr) ((e2.trans e3).trans (Ex.new hr)) upd_same⟩
end
end RT
namespace RT
open PySem PySem.Spec PyProof.Rows L2 Evl
/-! ### the text by places -/
def topS (i : Nat) : Stmt := PySem.Challenge.pw_risingtables_s03_made.main.body.getD i (.Pass ⟨0, 0, 0, 0⟩)
section
variable {P : Program} {w : World} {K : PySem.W.Frag} {mg : Str → Option Value} {base : Heap}
/-! ### size_of -/
abbrev s_size_of : Stmt := topS 1
theorem sc_size_of : FnScope ["n"] ["n"] (defScope s_size_of) := ⟨rfl, rfl, rfl, by decide +kernel, rfl, by decide +kernel, by decide +kernel⟩
def r_size_of (_ : Hp) (vs : List V) (z : V) : Prop := ∃ n : Nat, n ≤ 64 ∧ vs = [vN n] ∧ z = vN (2 ^ n)
theorem ok_size_of {f : Addr} {fd : FuncData} (F : Fun K "size_of" "size_of" s_size_of f fd) : FnOk P w K mg base CX0 1 f fd ["n"] (pV r_size_of) := by
  refine F.ok sc_size_of (fun vs H Q E h => ?_) (fun cdv A outer s H vs Q E hr h => ?_)
  · obtain ⟨z, ⟨n, hn, rfl, rfl⟩, _⟩ := h
    rfl
  · obtain ⟨z, ⟨n, hn, rfl, rfl⟩, q⟩ := h
    refine ⟨_, pss_one (ps_ret (pe_op op_shl pe_int (pv 0))), ?_⟩
    refine s_ret (ev_is (ev_op ev_c (ev_var rfl) (rv_I (cpow_nat (a := 1) (by omega) (by decide)))) ?_) q
    exact (shl_nat 1 n).trans (by rw [Nat.one_mul])
/-! ### table_of -/
abbrev s_table_of : Stmt := topS 2
theorem sc_table_of : FnScope ["n", "sets", "found", "x", "one"] ["n", "sets"] (defScope s_table_of) := ⟨rfl, rfl, rfl, by decide +kernel, rfl, by decide +kernel, by decide +kernel⟩
def r_table_of (K : PySem.W.Frag) (H : Hp) (vs : List V) (z : V) : Prop := ∃ (n : Nat) (a : Addr) (l : List Nat), n ≤ 6 ∧ l.length ≤ 64 ∧ vs = [vN n, .ref a] ∧ SqL K H a (l.map vN) ∧ z = vN (Sv84.made n l)
def madeF (l : List Nat) (y : Nat) : Bool := l.any fun x => Sv84.within x y
theorem madeF_is (l : List Nat) (y : Nat) : (!isNil (l.filter fun x => x &&& y == x)) = madeF l y := by
  unfold madeF Sv84.within
  induction l with
  | nil => rfl
  | cons a l ih =>
    rw [List.filter_cons, List.any_cons]
    cases h : (a &&& y == a) with
    | true => rfl
    | false => exact ih
theorem and_test (a b : Nat) : decide (V.int (Builtin.bitAnd (a : Int) (b : Int)) = vN a) = (a &&& b == a) := by
  rw [bitAnd_nat]
  exact vN_eq _ _
theorem ok_table_of {f : Addr} {fd : FuncData} (F : Fun K "table_of" "table_of" s_table_of f fd) (R_size_of : Rdy P w K mg base "size_of" 1 ["n"] (pV r_size_of)) (z_range : mg "range" = none) : FnOk P w K mg base CX0 2 f fd ["n", "sets"] (pV (r_table_of K)) := by
  refine F.ok sc_table_of (fun vs H Q E h => ?_) (fun cdv A outer s H vs Q E hr h => ?_)
  · obtain ⟨z, ⟨n, a, l, hn, hl, rfl, hs, rfl⟩, _⟩ := h
    rfl
  · obtain ⟨z, ⟨n, a, l, hn, hl, rfl, hs, rfl⟩, q⟩ := h
    have hp := pow_le_64 hn
    have hq : 0 < 2 ^ n := Nat.two_pow_pos n
    refine ⟨_, pss_cons (ps_set (i := 2) sc_table_of.nd rfl (.inl rfl) pe_int)
      (pss_cons (ps_for PassesOwn.never rfl (pi_range1 rfl z_range (pa_cons (pe_rdy R_size_of (hr.mono (by decide)) rfl (pa_cons (pv 0) pa_nil)) pa_nil)) (pg_name (i := 3) sc_table_of.nd rfl (.inr rfl))
        (pss_one (ps_if (pt_cmpR (op_neD hr.units) (pe_lc (own := [("one", 4)]) (g := gName 4) rfl sc_table_of.nd (pi_list (pv 1)) (blkOk_by (N := ["n", "sets", "found", "x", "one"]) (sc := defScope s_table_of) (by decide +kernel))
            (fun _ _ _ _ _ => pg_name (i := 4) sc_table_of.nd rfl (Or.inl rfl)) (fun _ _ _ _ _ => pts_one (pt_cmpR op_eq (pe_op op_and (pv 4) (pv 3)) (pv 4) (nomark _))) (fun _ _ _ _ _ => pv 4)) (pe_lst pa_nil) (nomark _))
          (pss_one (ps_set (i := 2) sc_table_of.nd rfl (.inl rfl) (pe_op op_add (pv 2) (pe_op op_shl pe_int (pv 3))))) pss_nil)))
      (pss_one (ps_ret (pv 2)))), ?_⟩
    refine q_asg ev_c fun H1 e1 => ?_
    refine q_forR1 (n := ((2 ^ n : Nat) : Int)) (ea_cons (ev_rdy (ea_cons (ev_var rfl) ea_nil) fun H1 _ => ⟨n, by omega, rfl, rfl⟩) ea_nil) ⟨by omega, by omega⟩
      (fun i σ' H' => ∃ v, σ' = [some (vN n), some (.ref a), some (vN (tabTo (madeF l) i)), v, none] ∧ Ex H H') (fun H3 e3 => ⟨none, rfl, e1.trans e3⟩) ?_ ?_
    · rintro i σ' H' hi ⟨v, rfl, e3⟩
      have hi2 : i < 2 ^ n := by omega
      refine s_when (b := madeF l i) (et_is (et_test (ev_neNil (ns := l.filter fun x => x &&& i == x) (el_is (el_lcL (K := K) (xs := l.map vN) (j := 4) (fun j => l.getD j 0 &&& i == l.getD j 0) (fun j => vN (l.getD j 0)) (ev_var rfl) (ex_l e3 hs)
        (by rw [List.length_map]; omega) (fun _ => rfl) (fun j y H4 _ hy => by
          rw [getD_of hy]
          exact et_is (et_test (ev_op (ev_op (ev_var rfl) (ev_var rfl) rv_I0) (ev_var rfl) (rv_eq rfl))) (and_test _ _)) (fun j y H4 _ hy _ => by
          rw [getD_of hy]
          exact ev_var rfl)) (given_nats l (fun x => x &&& i == x) vN _ (List.length_map ..))))) (madeF_is l i)) (fun hb H4 e4 => ?_) (fun hb H4 e4 => ?_)
      · refine s_asg (v := vN (tabTo (madeF l) (i + 1))) (ev_is (ev_op (ev_var rfl) (ev_is (ev_op ev_c (ev_var rfl) (rv_I (cpow_nat (a := 1) (by omega) (by decide)))) ((shl_nat 1 i).trans (by rw [Nat.one_mul]; rfl))) rv_I0) ?_) fun H5 e5 => ⟨_, rfl, (e3.trans e4).trans e5⟩
        rw [tabTo_succ, if_pos hb]
        rfl
      · refine ⟨some (vN i), ?_, e3.trans e4⟩
        rw [tabTo_succ, hb, if_neg (by decide), Nat.add_zero]
        rfl
    · rintro σ' H' ⟨v, rfl, e3⟩
      rw [Int.toNat_natCast]
      exact s_ret (ev_var rfl) fun H4 e4 => q H4 (e3.trans e4)
/-! ### is_size -/
abbrev s_is_size : Stmt := topS 8
theorem sc_is_size : FnScope ["n"] ["n"] (defScope s_is_size) := ⟨rfl, rfl, rfl, by decide +kernel, rfl, by decide +kernel, by decide +kernel⟩
def r_is_size (_ : Hp) (vs : List V) (z : V) : Prop := ∃ n : Int, vs = [.int n] ∧ z = .bl (Sv84.sizeOk n)
theorem ok_is_size {f : Addr} {fd : FuncData} (F : Fun K "is_size" "is_size" s_is_size f fd) (c_MOST_ELEMENTS : ∃ t, mg "MOST_ELEMENTS" = some (.int 6 t)) : FnOk P w K mg base CX0 1 f fd ["n"] (pV r_is_size) := by
  refine F.ok sc_is_size (fun vs H Q E h => ?_) (fun cdv A outer s H vs Q E hr h => ?_)
  · obtain ⟨z, ⟨n, rfl, rfl⟩, _⟩ := h
    rfl
  · obtain ⟨z, ⟨n, rfl, rfl⟩, q⟩ := h
    obtain ⟨t1, m1⟩ := c_MOST_ELEMENTS
    refine ⟨_, pss_one (ps_ret (pe_chain op_le op_le pe_int (pv 0) (pe_glob (v := .int 6) rfl m1 ⟨_, rfl⟩))), ?_⟩
    exact s_ret (ev_chain ev_c (ev_var rfl) rv_I0 ev_c rv_I0) q
/-! ### made -/
abbrev s_made : Stmt := topS 9
theorem sc_made : FnScope ["n", "k", "sets", "one"] ["n", "k", "sets"] (defScope s_made) := ⟨rfl, rfl, rfl, by decide +kernel, rfl, by decide +kernel, by decide +kernel⟩
def t_made (K : PySem.W.Frag) (H : Hp) (vs : List V) (out : List Int) : Prop := ∃ (n k : Int) (a : Addr) (s : List Int), s.length ≤ 64 ∧ (∀ x ∈ s, 0 ≤ x) ∧ vs = [.int n, .int k, .ref a] ∧ SqL K H a (s.map V.int) ∧ out = PySv84.made n k s
theorem nats_vN : ∀ s : List Int, (∀ x ∈ s, 0 ≤ x) → s.map V.int = (Sv84Neutral.nats s).map vN
  | [], _ => rfl
  | x :: r, h => by
    have h0 := h x (List.mem_cons_self ..)
    have ih := nats_vN r fun y hy => h y (List.mem_cons_of_mem _ hy)
    show V.int x :: r.map V.int = vN x.toNat :: (Sv84Neutral.nats r).map vN
    rw [ih]
    unfold vN
    rw [Int.toNat_of_nonneg h0]
theorem setsOk_is (m : Nat) (l : List Nat) : (!isNil (l.filter fun x => decide (2 ^ m ≤ x))) = !Sv84.setsOk m l := by
  unfold Sv84.setsOk
  rw [isNil_filter]
  congr 1
  refine all_congr fun x _ => ?_
  by_cases h : x < 2 ^ m
  · rw [decide_eq_true h, decide_eq_false (by omega)]
    rfl
  · rw [decide_eq_false h, decide_eq_true (by omega)]
    rfl
theorem ok_made {f : Addr} {fd : FuncData} (F : Fun K "made" "made" s_made f fd) (R_is_size : Rdy P w K mg base "is_size" 1 ["n"] (pV r_is_size)) (R_size_of : Rdy P w K mg base "size_of" 1 ["n"] (pV r_size_of)) (R_table_of : Rdy P w K mg base "table_of" 2 ["n", "sets"] (pV (r_table_of K))) (c_RANGE : ∃ t, mg "RANGE" = some (.int (-2) t)) (c_NO_TABLE : ∃ t, mg "NO_TABLE" = some (.int (-3) t)) (c_MOST_SETS : ∃ t, mg "MOST_SETS" = some (.int 64 t)) : FnOk P w K mg base CX0 3 f fd ["n", "k", "sets"] (pT (t_made K)) := by
  refine F.ok sc_made (fun vs H Q E h => ?_) (fun cdv A outer s H vs Q E hr h => ?_)
  · obtain ⟨out, ⟨n, k, a, s, hl, h0, rfl, hs, rfl⟩, _⟩ := h
    rfl
  · obtain ⟨out, ⟨n, k, a, s, hl, h0, rfl, hs, rfl⟩, q⟩ := h
    obtain ⟨t1, m1⟩ := c_RANGE
    obtain ⟨t2, m2⟩ := c_NO_TABLE
    obtain ⟨t3, m3⟩ := c_MOST_SETS
    refine ⟨_, pss_cons (ps_if (PW.pt (pw_or (pt_not (pt_val (pe_rdy R_is_size (hr.mono (by decide)) rfl (pa_cons (pv 0) pa_nil)))) (pw_or1 (pt_not (pt_chain op_le op_le pe_int (pv 1) (pe_glob (v := .int 64) rfl m3 ⟨_, rfl⟩))))))
        (pss_one (ps_ret (pe_lst (pa_cons (pe_glob (v := .int (-2)) rfl m1 ⟨_, rfl⟩) pa_nil)))) pss_nil)
      (pss_cons (ps_if (pt_cmpR (op_neD hr.units) (pe_lc (own := [("one", 3)]) (g := gName 3) rfl sc_made.nd (pi_list (pv 2)) (blkOk_by (N := ["n", "k", "sets", "one"]) (sc := defScope s_made) (by decide +kernel))
            (fun _ _ _ _ _ => pg_name (i := 3) sc_made.nd rfl (Or.inl rfl)) (fun _ _ _ _ _ => pts_one (pt_cmpR op_ge (pv 3) (pe_rdy R_size_of (hr.mono (by decide)) rfl (pa_cons (pv 0) pa_nil)) (nomark _))) (fun _ _ _ _ _ => pv 3)) (pe_lst pa_nil) (nomark _))
          (pss_one (ps_ret (pe_lst (pa_cons (pe_glob (v := .int (-3)) rfl m2 ⟨_, rfl⟩) pa_nil)))) pss_nil)
      (pss_one (ps_ret (pe_lst (pa_cons pe_int (pa_cons (pe_rdy R_table_of (hr.mono (by decide)) rfl (pa_cons (pv 0) (pa_cons (pv 2) pa_nil))) pa_nil)))))), ?_⟩
    have spec : PySv84.made n k s = Sv84Neutral.on (Sv84.madeOk n k) (Sv84.setsOk n.toNat (Sv84Neutral.nats s)) fun _ => [0, ((Sv84.made n.toNat (Sv84Neutral.nats s) : Nat) : Int)] := rfl
    rw [spec] at q
    unfold Sv84Neutral.on at q
    refine q_when (b := !Sv84.madeOk n k) (et_is (et_or (et_not (et_B (ev_rdy (ea_cons (ev_var rfl) ea_nil) fun _ _ => ⟨n, rfl, rfl⟩))) (fun _ => et_not (et_test (ev_chain ev_c (ev_var rfl) rv_I0 ev_c rv_I0)))) ?_) (fun hb H1 e1 => ?_) (fun hb H1 e1 => ?_)
    · unfold Sv84.madeOk Sv84.between
      cases Sv84.sizeOk n <;> rfl
    · rw [if_pos (by simpa using hb)] at q
      exact s_retL (el_lst (ea_cons ev_c ea_nil) (by show 1 ≤ 100000; decide)) fun p H3 _ _ hp => q H3 p hp
    · have hb2 : Sv84.madeOk n k = true := by simpa using hb
      rw [if_neg (by rw [hb2]; decide)] at q
      have hs1 : Sv84.sizeOk n = true := by
        unfold Sv84.madeOk at hb2
        rw [Bool.and_eq_true] at hb2
        exact hb2.1
      obtain ⟨m, rfl, hm⟩ := size_nat hs1
      have h64 := pow_le_64 hm
      rw [Int.toNat_natCast] at q
      rw [nats_vN s h0] at hs
      have hl2 : (Sv84Neutral.nats s).length ≤ 64 := by
        unfold Sv84Neutral.nats
        rw [List.length_map]
        exact hl
      generalize Sv84Neutral.nats s = l at q hs hl2
      refine q_when (b := !Sv84.setsOk m l) (et_is (et_test (ev_neNil (ns := l.filter fun x => decide (2 ^ m ≤ x)) (el_is (el_lcL (K := K) (xs := l.map vN) (j := 3) (fun j => decide (2 ^ m ≤ l.getD j 0)) (fun j => vN (l.getD j 0)) (ev_var rfl) (ex_l e1 hs)
        (by rw [List.length_map]; omega) (fun _ => rfl) (fun j y H4 _ hy => by
          rw [getD_of hy]
          refine et_is (et_test (ev_op (ev_var rfl) (ev_rdy (ea_cons (ev_var rfl) ea_nil) fun _ _ => ⟨m, by omega, rfl, rfl⟩) rv_I0)) ?_
          exact decide_eq_decide.mpr Int.ofNat_le) (fun j y H4 _ hy _ => by
          rw [getD_of hy]
          exact ev_var rfl)) (given_nats l (fun x => decide (2 ^ m ≤ x)) vN _ (List.length_map ..))))) (setsOk_is m l)) (fun hc H2 e2 => ?_) (fun hc H2 e2 => ?_)
      · rw [if_pos (by simpa using hc)] at q
        exact s_retL (el_lst (ea_cons ev_c ea_nil) (by show 1 ≤ 100000; decide)) fun p H3 _ _ hp => q H3 p hp
      · rw [if_neg (by rw [show Sv84.setsOk m l = true by simpa using hc]; decide)] at q
        exact s_retL (el_lst (ea_cons ev_c (ea_cons (ev_rdy (z := vN (Sv84.made m l)) (ea_cons (ev_var rfl) (ea_cons (ev_var rfl) ea_nil)) fun H3 e3 => ⟨m, a, l, hm, hl2, rfl, ex_l (e1.trans (e2.trans e3)) hs, rfl⟩) ea_nil)) (by show 2 ≤ 100000; decide)) fun p H3 _ _ hp => q H3 p hp
end
theorem all_mk {P : Program} {w : World} {K : PySem.W.Frag} {h : Heap} {mg : Str → Option Value} {fa f_size_of f_table_of f_is_size f_made : Addr} (X : K.In h) (G : h.Ns mainGlobals mg) (hfa : mg "made" = some (.ref fa)) {od_size_of an_size_of : Option Addr} {sl_size_of : Array (Option Value)} {oc_size_of kV_size_of dc_size_of pm_size_of cd_size_of ct_size_of : Value} {od_table_of an_table_of : Option Addr} {sl_table_of : Array (Option Value)} {oc_table_of kV_table_of dc_table_of pm_table_of cd_table_of ct_table_of : Value} {od_is_size an_is_size : Option Addr} {sl_is_size : Array (Option Value)} {oc_is_size kV_is_size dc_is_size pm_is_size cd_is_size ct_is_size : Value} {od_made an_made : Option Addr} {sl_made : Array (Option Value)} {oc_made kV_made dc_made pm_made cd_made ct_made : Value} {tk_MOST_ELEMENTS : Tok} {tk_RANGE : Tok} {tk_NO_TABLE : Tok} {tk_MOST_SETS : Tok}
    (a_size_of : PySem.W.nsIn K mainGlobals "size_of" = some (some (.ref f_size_of))) (l_size_of : K.lookup f_size_of = some ⟨oc_size_of, od_size_of, .func (PySem.W.fnOf "size_of" "size_of" (defArgs s_size_of) (defBody s_size_of) (defScope s_size_of) .none kV_size_of dc_size_of pm_size_of an_size_of cd_size_of ct_size_of), sl_size_of⟩) (c_size_of : PySem.W.codeIn K cd_size_of "size_of" = true) (k_size_of : PySem.W.keepIn K (.ref f_size_of) = true)
    (a_table_of : PySem.W.nsIn K mainGlobals "table_of" = some (some (.ref f_table_of))) (l_table_of : K.lookup f_table_of = some ⟨oc_table_of, od_table_of, .func (PySem.W.fnOf "table_of" "table_of" (defArgs s_table_of) (defBody s_table_of) (defScope s_table_of) .none kV_table_of dc_table_of pm_table_of an_table_of cd_table_of ct_table_of), sl_table_of⟩) (c_table_of : PySem.W.codeIn K cd_table_of "table_of" = true) (k_table_of : PySem.W.keepIn K (.ref f_table_of) = true)
    (a_is_size : PySem.W.nsIn K mainGlobals "is_size" = some (some (.ref f_is_size))) (l_is_size : K.lookup f_is_size = some ⟨oc_is_size, od_is_size, .func (PySem.W.fnOf "is_size" "is_size" (defArgs s_is_size) (defBody s_is_size) (defScope s_is_size) .none kV_is_size dc_is_size pm_is_size an_is_size cd_is_size ct_is_size), sl_is_size⟩) (c_is_size : PySem.W.codeIn K cd_is_size "is_size" = true) (k_is_size : PySem.W.keepIn K (.ref f_is_size) = true)
    (a_made : PySem.W.nsIn K mainGlobals "made" = some (some (.ref f_made))) (l_made : K.lookup f_made = some ⟨oc_made, od_made, .func (PySem.W.fnOf "made" "made" (defArgs s_made) (defBody s_made) (defScope s_made) .none kV_made dc_made pm_made an_made cd_made ct_made), sl_made⟩) (c_made : PySem.W.codeIn K cd_made "made" = true) (k_made : PySem.W.keepIn K (.ref f_made) = true)
    (z_range : PySem.W.nsIn K mainGlobals "range" = some none)
    (g_MOST_ELEMENTS : PySem.W.nsIn K mainGlobals "MOST_ELEMENTS" = some (some (.int 6 tk_MOST_ELEMENTS)))
    (g_RANGE : PySem.W.nsIn K mainGlobals "RANGE" = some (some (.int (-2) tk_RANGE)))
    (g_NO_TABLE : PySem.W.nsIn K mainGlobals "NO_TABLE" = some (some (.int (-3) tk_NO_TABLE)))
    (g_MOST_SETS : PySem.W.nsIn K mainGlobals "MOST_SETS" = some (some (.int 64 tk_MOST_SETS))) :
    ∃ fd : FuncData, (∀ (s : Shared) (us : List Value), us.length = (["n", "k", "sets"] : List Str).length → BindsTo s fd ⟨us, []⟩ ((["n", "k", "sets"] : List Str).zip us)) ∧ ∀ base : Heap, K.In base → base.Ns mainGlobals mg → FnOk P w K mg base CX0 3 fa fd ["n", "k", "sets"] (pT (t_made K)) := by
  have e := hfa.symm.trans (PySem.W.mg_of X G a_made)
  cases e
  have F_size_of := fun_mk (st := s_size_of) l_size_of c_size_of k_size_of
  have F_table_of := fun_mk (st := s_table_of) l_table_of c_table_of k_table_of
  have F_is_size := fun_mk (st := s_is_size) l_is_size c_is_size k_is_size
  have F_made := fun_mk (st := s_made) l_made c_made k_made
  have b_size_of := F_size_of.binds (ps := ["n"]) fun _ _ _ _ _ _ us hl => match us, hl with | [_], _ => rfl
  have b_table_of := F_table_of.binds (ps := ["n", "sets"]) fun _ _ _ _ _ _ us hl => match us, hl with | [_, _], _ => rfl
  have b_is_size := F_is_size.binds (ps := ["n"]) fun _ _ _ _ _ _ us hl => match us, hl with | [_], _ => rfl
  refine ⟨PySem.W.fnOf "made" "made" (defArgs s_made) (defBody s_made) (defScope s_made) .none kV_made dc_made pm_made an_made cd_made ct_made, fun s us hu => match us, hu with | [_, _, _], _ => .of_eq rfl, fun base _ _ => ?_⟩
  have R_size_of : Rdy P w K mg base "size_of" 1 ["n"] (pV r_size_of) := ⟨_, _, PySem.W.mg_of X G a_size_of, k_size_of, b_size_of, ok_size_of F_size_of⟩
  have R_table_of : Rdy P w K mg base "table_of" 2 ["n", "sets"] (pV (r_table_of K)) := ⟨_, _, PySem.W.mg_of X G a_table_of, k_table_of, b_table_of, ok_table_of F_table_of R_size_of (PySem.W.mg_none_of X G z_range)⟩
  have R_is_size : Rdy P w K mg base "is_size" 1 ["n"] (pV r_is_size) := ⟨_, _, PySem.W.mg_of X G a_is_size, k_is_size, b_is_size, ok_is_size F_is_size ⟨_, PySem.W.mg_of X G g_MOST_ELEMENTS⟩⟩
  exact ok_made F_made R_is_size R_size_of R_table_of ⟨_, PySem.W.mg_of X G g_RANGE⟩ ⟨_, PySem.W.mg_of X G g_NO_TABLE⟩ ⟨_, PySem.W.mg_of X G g_MOST_SETS⟩
end RT
open PySem PySem.W PyProof.Rows
set_option maxRecDepth 100000 in
set_option maxHeartbeats 8000000 in
theorem PySem.Challenge.cw_risingtables_s03_made_holds : PySem.Challenge.rw_risingtables_s03_made.Holds := by
  w_on; k_headS; (case hw => exact ⟨[.int 0, .int 0, .list []], by decide +kernel, by decide +kernel⟩)
  k_fillS
  refine L2.walk_specK (r := PySem.Challenge.rw_risingtables_s03_made) (k := 3) (CX := L2.CX0) (ps := ["n", "k", "sets"]) (sp := fun K => RT.pT (RT.t_made K)) (by decide +kernel) rfl rfl ⟨rfl, by decide, by decide⟩ (fun w h Y => PySem.W.kIn_of Y) ?F ?S (fun _ _ _ _ z => z)
  case F =>
    intro w mg fa h Y KX G hmg
    refine' RT.all_mk KX G hmg ?a_size_of ?l_size_of ?c_size_of ?k_size_of ?a_table_of ?l_table_of ?c_table_of ?k_table_of ?a_is_size ?l_is_size ?c_is_size ?k_is_size ?a_made ?l_made ?c_made ?k_made ?z_range ?g_MOST_ELEMENTS ?g_RANGE ?g_NO_TABLE ?g_MOST_SETS
    (case a_size_of => k_is); (case l_size_of => k_is); (case c_size_of => k_is); (case k_size_of => k_is); (case a_table_of => k_is); (case l_table_of => k_is); (case c_table_of => k_is); (case k_table_of => k_is); (case a_is_size => k_is); (case l_is_size => k_is); (case c_is_size => k_is); (case k_is_size => k_is); (case a_made => k_is); (case l_made => k_is); (case c_made => k_is); (case k_made => k_is); (case z_range => k_is); (case g_MOST_ELEMENTS => k_is); (case g_RANGE => k_is); (case g_NO_TABLE => k_is); (case g_MOST_SETS => k_is)
  case S =>
    intro K H xs a hO hwi hask hx
    cases hx with
    | cons h1 h2 =>
      cases h2 with
      | cons h2 h3 =>
        cases h3 with
        | cons h3 h4 =>
          cases h4
          cases h1
          cases h2
          cases h3 with
          | lst hs ha =>
            have e := L2.ints_dw a.2.2.1 _ ha
            subst e
            have q : (Codec.inInt (-2147483648) 2147483647 a.1 && (Codec.inInt (-2147483648) 2147483647 a.2.1 && ((Codec.inLen 0 64 a.2.2.1 && a.2.2.1.all (Codec.inInt 0 255)) && true))) = true := hwi
            rw [Bool.and_eq_true, Bool.and_eq_true, Bool.and_eq_true, Bool.and_eq_true] at q
            obtain ⟨_, _, ⟨q1, q2⟩, _⟩ := q
            refine ⟨_, ⟨a.1, a.2.1, _, a.2.2.1, (Codec.inNat_iff.mp q1).2, fun x hx => ?_, rfl, hs, rfl⟩, fun H' p hp => .lst (L2.SqL.of hp) (L2.dw_ints _)⟩
            have := List.all_eq_true.mp q2 x hx
            exact (Codec.inInt_iff.mp this).1
#print axioms PySem.Challenge.cw_risingtables_s03_made_holds
