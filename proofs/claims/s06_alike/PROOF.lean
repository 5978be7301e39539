import PyProof.Rows.All
import Wide.All
import OpenK.AllK
import Wide.FinOn
import PyProof.EqAt
import PyProof.EqKinds
import PyProof.TupleCall
import Open.SpecLaws
import KE.OsGo
import HandS.ForSpec
import HandS.ForMost
import HandS.Evl
import PySem.Challenge.RW_risingtables_s06_alike
set_option Elab.async false
set_option linter.all false
set_option maxRecDepth 100000
set_option maxHeartbeats 4000000
namespace RT
open PySem PySem.Spec PyProof.Rows L2 Evl

/-! ### values, promises, calls -/
def vN (k : Nat) : V := .int (k : Int)
/-- a def that stands at its name and keeps its promise -/
structure Rdy (P : Program) (w : World) (K : PySem.W.Frag) (mg : Str → Option Value) (base : Heap) (x : Str) (k : Nat) (ps : List Str) (sp : Sp) : Prop where
  ex : ∃ f fd, mg x = some (.ref f) ∧ PySem.W.keepIn K (.ref f) = true ∧ Binds K fd ps [] ∧ FnOk P w K mg base CX0 k f fd ps sp
theorem pe_rdy {X : Cx} {k : Nat} {x : Str} {ps : List Str} {sp : Sp} {p pos : Pos} {e : Expr} {es : List Expr} {t : TA} (R : Rdy X.prog X.w X.K X.mg X.base x k ps sp) (hr : Room k X.A) (hg : Gl X x) (ha : PA X (e :: es) t)
    (hdb : (x == ("__debug__" : Str)) = false := by decide) (he : starEach (e :: es) X.env = (false, eval e X.env) :: starEach es X.env := by rfl) (hpl : (backTo pos (starEach es X.env)).any (·.1) = false := by rfl) :
    PE X (.Call (.Name x p) (e :: es) [] pos) (tCall sp [] E0 t) := by
  obtain ⟨f, fd, hm, hk, hb, F⟩ := R.ex
  exact pe_call F hr hg hm hk hb .nil pass0 ha hdb he hpl
/-- hands back a value -/
def pV (R : Hp → List V → V → Prop) : Sp := fun vs H Q _ => ∃ z, R H vs z ∧ ∀ H', Ex H H' → Q z H'
/-- hands back a new list -/
def pL (R : Hp → List V → List V → Prop) : Sp := fun vs H Q _ => ∃ xs, R H vs xs ∧ ∀ p H', H p = none → Ex H H' → H' p = some (.lst xs) → Q (.ref p) H'
section
variable {K : PySem.W.Frag} {σ : L2.St} {H : Hp} {ta : TA} {E : XK}
theorem ev_rdy {R : Hp → List V → V → Prop} {vs : List V} {z : V} (h : EvA ta σ H vs) (hR : ∀ H1, Ex H H1 → R H1 vs z) : Ev (tCall (pV R) [] E ta) σ H z :=
  ev_call h fun H1 e Q q E => ⟨z, by rw [List.append_nil]; exact hR H1 e, q⟩
theorem el_rdy {R : Hp → List V → List V → Prop} {vs xs : List V} (h : EvA ta σ H vs) (hR : ∀ H1, Ex H H1 → R H1 vs xs) : EvL (tCall (pL R) [] E ta) σ H xs :=
  el_call h fun H1 e Q q E => ⟨xs, by rw [List.append_nil]; exact hR H1 e, q⟩
end
theorem el_is {te : TE} {σ : L2.St} {H : Hp} {xs ys : List V} (h : EvL te σ H xs) (e : xs = ys) : EvL te σ H ys := by
  rw [← e]
  exact h

/-! ### comprehensions over lists of numbers -/
theorem range_getD {α : Type} (d : α) : ∀ l : List α, (List.range l.length).map (fun i => l.getD i d) = l := by
  intro l
  apply List.ext_getElem?
  intro i
  by_cases h : i < l.length
  · simp [h]
  · simp [h, Nat.not_lt.mp h]
theorem given_nats (ys : List Nat) (p : Nat → Bool) (q : Nat → V) (n : Nat) (hn : n = ys.length) : given n (fun i => p (ys.getD i 0)) (fun i => q (ys.getD i 0)) = (ys.filter p).map q := by
  subst hn
  unfold given
  have e := range_getD 0 ys
  have e2 : ((List.range ys.length).map (fun i => ys.getD i 0)).filter p = ys.filter p := by rw [e]
  rw [List.filter_map] at e2
  rw [← e2, List.map_map]
  rfl
theorem getD_of {ys : List Nat} {i : Nat} {x : V} (h : (ys.map vN)[i]? = some x) : x = vN (ys.getD i 0) := by
  rw [List.getElem?_map] at h
  cases e : ys[i]? with
  | none => rw [e] at h; cases h
  | some y =>
    rw [e] at h
    rw [List.getD_eq_getElem?_getD, e]
    exact (Option.some.inj h).symm
theorem len_filter_le {ys : List Nat} {p : Nat → Bool} : (ys.filter p).length ≤ ys.length := List.length_filter_le p ys

/-! ### lists compared with the empty list -/
def isNil {α : Type} : List α → Bool
  | [] => true
  | _ :: _ => false
theorem isNil_map {α β : Type} (f : α → β) (l : List α) : isNil (l.map f) = isNil l := by cases l <;> rfl
theorem isNil_filter {α : Type} (p : α → Bool) (l : List α) : isNil (l.filter p) = l.all (fun x => !p x) := by
  induction l with
  | nil => rfl
  | cons a l ih =>
    rw [List.filter_cons, List.all_cons]
    cases h : p a with
    | true => rfl
    | false => exact ih
theorem lay_ints : ∀ ns : List Int, PyData.canLayAll0 (ns.map PyData.int) = true
  | [] => by simp [PyData.canLayAll0]
  | n :: r => by
    rw [List.map_cons, PyData.canLayAll0, lay_ints r, PyData.canLay0] <;> rfl
theorem depth_ints : ∀ ns : List Int, PyData.depthAll (ns.map PyData.int) ≤ 1
  | [] => by simp [PyData.depthAll]
  | n :: r => by
    have ih := depth_ints r
    rw [List.map_cons, PyData.depthAll, PyData.depth]
    omega
theorem shaped_ints (ns : List Int) : SeqAt.shaped (.list (ns.map PyData.int)) = true := by
  unfold SeqAt.shaped
  rw [Bool.and_eq_true]
  refine ⟨?_, decide_eq_true ?_⟩
  · rw [PyData.canLay0]
    exact lay_ints ns
  · have := depth_ints ns
    rw [PyData.depth]
    omega
theorem dp_ints {K : PySem.W.Frag} {H : Hp} : ∀ ns : List Int, DpAll K H (ns.map V.int) (ns.map PyData.int)
  | [] => .nil
  | n :: r => .cons (.int n) (dp_ints r)
theorem eqv_nil (ns : List Int) : PyData.eqv (.list (ns.map PyData.int)) (.list []) = isNil ns := by
  cases ns with
  | nil => decide +kernel
  | cons n r =>
    rw [List.map_cons]
    simp [PyData.eqv, PyData.eqvAll, isNil]
section
variable {K : PySem.W.Frag} {σ : L2.St} {H : Hp} {ta tb : TE}
/-- [..] == [] -/
theorem ev_eqNil {ns : List Nat} (ha : EvL ta σ H (ns.map vN)) : Ev (tOp (rEqD K) ta (tLst tNil)) σ H (.bl (isNil ns)) :=
  ev_opLL ha (el_lst ea_nil (Nat.zero_le _)) fun p q H1 hp hq _ => fun H2 e2 Q k => by
    have hm : ns.map vN = (ns.map fun (k : Nat) => (k : Int)).map V.int := by rw [List.map_map]; rfl
    rw [hm] at hp
    refine ⟨_, .list [], .lst (ex_l e2 (sq_of hp)) (dp_ints _), .lst (ex_l e2 (sq_of hq)) .nil, shaped_ints _, shaped_ints [], ?_⟩
    rw [eqv_nil, isNil_map]
    exact k H2 (Ex.refl H2)
/-- [..] != [] -/
theorem ev_neNil {ns : List Nat} (ha : EvL ta σ H (ns.map vN)) : Ev (tOp (rNeD K) ta (tLst tNil)) σ H (.bl (!isNil ns)) :=
  ev_opLL ha (el_lst ea_nil (Nat.zero_le _)) fun p q H1 hp hq _ => fun H2 e2 Q k => by
    have hm : ns.map vN = (ns.map fun (k : Nat) => (k : Int)).map V.int := by rw [List.map_map]; rfl
    rw [hm] at hp
    refine ⟨_, .list [], .lst (ex_l e2 (sq_of hp)) (dp_ints _), .lst (ex_l e2 (sq_of hq)) .nil, shaped_ints _, shaped_ints [], ?_⟩
    rw [eqv_nil, isNil_map]
    exact k H2 (Ex.refl H2)
end

/-! ### numbers -/
def bt (t x : Nat) : Nat := t / 2 ^ x % 2
theorem bt_eq (t x : Nat) : bt t x = (t.testBit x).toNat := by
  unfold bt
  rw [Nat.testBit_eq_decide_div_mod_eq]
  have h := Nat.mod_two_eq_zero_or_one (t / 2 ^ x)
  rcases h with h | h <;> rw [h] <;> rfl
theorem bt_zero {t x : Nat} : decide (vN (bt t x) = V.int 0) = !t.testBit x := by
  rw [bt_eq]
  cases t.testBit x <;> decide
theorem bt_one {t x : Nat} : decide (vN (bt t x) = V.int 1) = t.testBit x := by
  rw [bt_eq]
  cases t.testBit x <;> decide
theorem shr_nat (t x : Nat) : V.int ((t : Int) / 2 ^ (x : Int).toNat % 2) = vN (bt t x) := by
  unfold vN bt
  rw [Int.toNat_natCast]
  norm_cast
theorem shl_nat (a x : Nat) : V.int ((a : Int) * 2 ^ (x : Int).toNat) = vN (a * 2 ^ x) := by
  unfold vN
  rw [Int.toNat_natCast]
  norm_cast
theorem pow_le_64 {n : Nat} (h : n ≤ 6) : 2 ^ n ≤ 64 := Nat.pow_le_pow_right (n := 2) (by decide) h
theorem cpow_nat {a x : Nat} (hx : x ≤ 1000) (ha : a < 2 ^ 64) : CPow (a : Int) (x : Int) := ⟨Int.natCast_nonneg _, by omega, by rw [Int.natAbs_natCast]; exact ha⟩

/-! ### the tables as sums -/
def tabTo (f : Nat → Bool) (i : Nat) : Nat := ((List.range i).map fun x => if f x = true then 2 ^ x else 0).sum
theorem tabTo_succ (f : Nat → Bool) (i : Nat) : tabTo f (i + 1) = tabTo f i + if f i = true then 2 ^ i else 0 := by
  unfold tabTo
  rw [List.range_succ, List.map_append, List.sum_append]
  simp
theorem table_tabTo (n : Nat) (f : Nat → Bool) : Sv84.table n f = tabTo f (2 ^ n) := rfl
end RT
namespace RT
open PySem PySem.Spec PyProof.Rows L2 Evl
section
variable {K : PySem.W.Frag} {σ : L2.St} {H : Hp} {ta tb tc te : TE} {t : TT}
theorem ev_chain {r r' : R2} {x y z : V} {a b : Bool} (ha : Ev ta σ H x) (hb : Ev tb σ H y) (hr : RV r x y H (.bl a)) (hc : Ev tc σ H z) (hr' : RV r' y z H (.bl b)) : Ev (tChain r r' ta tb tc) σ H (.bl (a && b)) := fun H1 e Q q =>
  ha H1 e _ fun H2 e2 => hb H2 (e.trans e2) _ fun H3 e3 => hr H3 ((e.trans e2).trans e3) _ fun H4 e4 => ⟨a, rfl, by
    cases a with
    | true =>
      show tc σ H4 fun w' H5 => r' y w' H5 Q
      exact hc H4 (((e.trans e2).trans e3).trans e4) _ fun H5 e5 => hr' H5 ((((e.trans e2).trans e3).trans e4).trans e5) Q fun H6 e6 => q H6 (((((e2.trans e3).trans e4).trans e5)).trans e6)
    | false =>
      show Q (.bl false) H4
      exact q H4 ((e2.trans e3).trans e4)⟩
theorem el_if {b : Bool} {xs : List V} (h : EvT t σ H b) (h1 : b = true → EvL ta σ H xs) (h2 : b = false → EvL tb σ H xs) : EvL (tIf t ta tb) σ H xs := fun H1 e Q q => h H1 e _ fun H2 e2 => by
  cases b with
  | true =>
    show ta σ H2 Q
    exact h1 rfl H2 (e.trans e2) Q fun p H3 hp e3 h3 => q p H3 (fresh_back e2 hp) (e2.trans e3) h3
  | false =>
    show tb σ H2 Q
    exact h2 rfl H2 (e.trans e2) Q fun p H3 hp e3 h3 => q p H3 (fresh_back e2 hp) (e2.trans e3) h3
end
/-- the asked def's own promise: a list that holds the answer -/
def pT (S : Hp → List V → List Int → Prop) : Sp := fun vs H Q _ => ∃ out, S H vs out ∧ ∀ H' p, H' p = some (.lst (out.map V.int)) → Q (.ref p) H'

/-! ### refusals -/
def refus (n t : Int) : Int := if Sv84.sizeOk n = true then (if t < ((2 ^ 2 ^ n.toNat : Nat) : Int) then 0 else -3) else -2
theorem size_nat {n : Int} (h : Sv84.sizeOk n = true) : ∃ m : Nat, n = (m : Int) ∧ m ≤ 6 := by
  unfold Sv84.sizeOk Sv84.between at h
  rw [Bool.and_eq_true, decide_eq_true_eq, decide_eq_true_eq] at h
  exact ⟨n.toNat, by omega, by omega⟩
theorem refus_ok {n t : Int} (h : ¬ refus n t < 0) (ht : 0 ≤ t) : ∃ m u : Nat, n = (m : Int) ∧ m ≤ 6 ∧ t = (u : Int) ∧ u < 2 ^ 2 ^ m := by
  unfold refus at h
  by_cases h1 : Sv84.sizeOk n = true
  · rw [if_pos h1] at h
    obtain ⟨m, rfl, hm⟩ := size_nat h1
    rw [Int.toNat_natCast] at h
    by_cases h2 : t < ((2 ^ 2 ^ m : Nat) : Int)
    · exact ⟨m, t.toNat, rfl, hm, by omega, by omega⟩
    · rw [if_neg h2] at h
      exact absurd (by decide) h
  · rw [if_neg h1] at h
    exact absurd (by decide) h
theorem on_refus {n t : Int} (ht : 0 ≤ t) (x : Unit → List Int) : Sv84Neutral.on (Sv84.sizeOk n) (Sv84.fits n.toNat t.toNat) x = if refus n t < 0 then [refus n t] else x () := by
  unfold Sv84Neutral.on refus Sv84.fits
  cases h1 : Sv84.sizeOk n with
  | false => rfl
  | true =>
    rw [if_neg (by decide), if_pos rfl]
    generalize (2 ^ 2 ^ n.toNat : Nat) = N
    by_cases h2 : t < (N : Int)
    · rw [if_pos h2, decide_eq_true (show t.toNat < N by omega), if_neg (by decide), if_neg (by decide)]
    · rw [if_neg h2, decide_eq_false (show ¬ t.toNat < N by omega), if_pos rfl, if_pos (by decide)]
end RT
namespace RT
open PySem PySem.Spec PyProof.Rows L2 Evl
/-! ### the neighbours of a set -/
def aboveN (n x : Nat) : List Nat := ((List.range n).filter fun e => !x.testBit e).map fun e => x + 2 ^ e
def belowN (n x : Nat) : List Nat := ((List.range n).filter fun e => x.testBit e).map fun e => x - 2 ^ e
theorem aboveN_len (n x : Nat) : (aboveN n x).length ≤ n := by
  unfold aboveN
  rw [List.length_map]
  have h := List.length_filter_le (fun e => !x.testBit e) (List.range n)
  rw [List.length_range] at h
  exact h
theorem belowN_len (n x : Nat) : (belowN n x).length ≤ n := by
  unfold belowN
  rw [List.length_map]
  have h := List.length_filter_le (fun e => x.testBit e) (List.range n)
  rw [List.length_range] at h
  exact h
theorem all_filter {α : Type} (p q : α → Bool) (l : List α) : (l.filter p).all q = l.all fun x => !p x || q x := by
  induction l with
  | nil => rfl
  | cons a l ih =>
    rw [List.filter_cons, List.all_cons]
    cases h : p a with
    | true => rw [if_pos rfl, List.all_cons, ih] <;> rfl
    | false => rw [if_neg (by decide), ih] <;> rfl
theorem all_map {α β : Type} (f : α → β) (q : β → Bool) (l : List α) : (l.map f).all q = l.all fun x => q (f x) := by
  induction l with
  | nil => rfl
  | cons a l ih => rw [List.map_cons, List.all_cons, List.all_cons, ih]
theorem all_or {α : Type} (b : Bool) (q : α → Bool) (l : List α) (h : b = false ∨ l ≠ [] ∨ True) : (l.all fun x => b || q x) = (b || l.all q) := by
  cases b with
  | true => simp
  | false => simp
theorem all_congr {α : Type} {p q : α → Bool} {l : List α} (h : ∀ x ∈ l, p x = q x) : l.all p = l.all q := by
  induction l with
  | nil => rfl
  | cons a l ih => rw [List.all_cons, List.all_cons, h a (List.mem_cons_self ..), ih fun x hx => h x (List.mem_cons_of_mem _ hx)]
def riseAt (n t x : Nat) : Bool := !t.testBit x || (aboveN n x).all fun y => t.testBit y
def isRis (n t : Nat) : Bool := (List.range (2 ^ n)).all fun x => riseAt n t x
theorem isRis_is (n t : Nat) : isRis n t = Sv84.rises n t := by
  unfold isRis Sv84.rises Sv84.sets Sv84.gives
  refine all_congr fun x _ => ?_
  unfold riseAt aboveN
  rw [all_map, all_filter, all_or _ _ _ (.inr (.inr trivial))]
  congr 1
  refine all_congr fun e _ => ?_
  rw [Bool.not_not]
def leastAt (n t x : Nat) : Bool := t.testBit x && (belowN n x).all fun y => !t.testBit y
def leastTo (n t i : Nat) : List Nat := (List.range i).filter fun x => leastAt n t x
theorem leastTo_is (n t : Nat) : leastTo n t (2 ^ n) = Sv84.least n t := by
  unfold leastTo Sv84.least Sv84.sets Sv84.gives
  refine List.filter_congr fun x _ => ?_
  unfold leastAt belowN
  rw [all_map, all_filter]
theorem leastTo_len (n t i : Nat) : (leastTo n t i).length ≤ i := by
  unfold leastTo
  have h := List.length_filter_le (fun x => leastAt n t x) (List.range i)
  rw [List.length_range] at h
  exact h
theorem leastTo_yes {n t i : Nat} (h : leastAt n t i = true) : leastTo n t (i + 1) = leastTo n t i ++ [i] := by
  unfold leastTo
  rw [List.range_succ, List.filter_append, List.filter_cons, if_pos h] <;> rfl
theorem leastTo_no {n t i : Nat} (h : leastAt n t i = false) : leastTo n t (i + 1) = leastTo n t i := by
  unfold leastTo
  rw [List.range_succ, List.filter_append, List.filter_cons, if_neg (by rw [h]; decide), List.filter_nil, List.append_nil]
theorem pow_le_of_bit {x e : Nat} (h : x.testBit e = true) : 2 ^ e ≤ x := by
  apply Nat.le_of_not_lt
  intro hlt
  rw [Nat.testBit_lt_two_pow hlt] at h
  cases h
theorem bitAnd_nat (a b : Nat) : Builtin.bitAnd (a : Int) (b : Int) = ((a &&& b : Nat) : Int) := by
  unfold Builtin.bitAnd
  rw [decide_eq_true (Int.natCast_nonneg a), decide_eq_true (Int.natCast_nonneg b)]
  rfl
theorem bitOr_nat (a b : Nat) : Builtin.bitOr (a : Int) (b : Int) = ((a ||| b : Nat) : Int) := by
  have h1 : ∀ c : Nat, Builtin.bitNot (Builtin.bitNot (c : Int)) = (c : Int) := fun c => by
    unfold Builtin.bitNot
    omega
  have h2 : ∀ c : Nat, ¬ 0 ≤ Builtin.bitNot (c : Int) := fun c => by
    unfold Builtin.bitNot
    omega
  unfold Builtin.bitOr Builtin.bitAnd
  rw [decide_eq_false (h2 a), decide_eq_false (h2 b)]
  show Builtin.bitNot (Builtin.bitNot (((Builtin.bitNot (Builtin.bitNot (a : Int))).toNat ||| (Builtin.bitNot (Builtin.bitNot (b : Int))).toNat : Nat) : Int)) = _
  rw [h1 a, h1 b, h1, Int.toNat_natCast, Int.toNat_natCast]
theorem vN_eq (a b : Nat) : decide (vN a = vN b) = (a == b) := by
  by_cases h : a = b
  · subst h
    rw [decide_eq_true rfl, beq_self_eq_true]
  · rw [decide_eq_false (show ¬ vN a = vN b from fun e => h (Int.ofNat_inj.mp (V.int.inj e)))]
    exact (beq_eq_false_iff_ne.mpr h).symm
theorem sum_cast : ∀ ns : List Nat, (ns.map fun (k : Nat) => (k : Int)).sum = ((ns.sum : Nat) : Int)
  | [] => rfl
  | n :: r => by
    rw [List.map_cons, List.sum_cons, List.sum_cons, sum_cast r, Int.natCast_add]
theorem map_vN (ns : List Nat) : ns.map vN = (ns.map fun (k : Nat) => (k : Int)).map V.int := by
  rw [List.map_map]
  rfl
section
variable {K : PySem.W.Frag} {σ : L2.St} {H : Hp} {ta tb tc te : TE} {t : TT}
theorem ev_sumN {ns : List Nat} (ha : EvL ta σ H (ns.map vN)) : Ev (tCB (rSum K) (tCons ta tNil)) σ H (vN ns.sum) := fun H1 e Q q =>
  ha H1 e _ fun p H2 _ e2 h2 => ⟨p, ns.map fun (k : Nat) => (k : Int), rfl, sq_of (by rw [h2, map_vN]), by rw [sum_cast]; exact q H2 e2⟩
/-- [..] + xs -/
theorem el_cat {b : Addr} {xs zs : List V} (ha : EvL ta σ H xs) (hb : Ev tb σ H (.ref b)) (hz : H b = some (.lst zs)) (hl : xs.length + zs.length ≤ 100000) : EvL (tOp rCat ta tb) σ H (xs ++ zs) := fun H1 e Q q =>
  ha H1 e _ fun p H2 hp e2 h2 => hb H2 (e.trans e2) _ fun H3 e3 => ⟨p, b, xs, zs, rfl, rfl, e3 p _ h2, ((e.trans e2).trans e3) b _ hz, sz_of hl, fun r hr => q r _ (fresh_back (e2.trans e3) hr) ((e2.trans e3).trans (Ex.new hr)) upd_same⟩
end
end RT
namespace RT
open PySem PySem.Spec PyProof.Rows L2 Evl
section
variable {X : Cx} {p pos : Pos} {e : Expr} {es : List Expr} {t : TA}
theorem pe_sum {K : PySem.W.Frag} (hK : X.K = K) (hc : X.calm = true) (hg : Gl X "sum") (hm : X.mg "sum" = none) (ha : PA X (e :: es) t)
    (he : starEach (e :: es) X.env = (false, eval e X.env) :: starEach es X.env := by rfl) (hpl : (backTo pos (starEach es X.env)).any (·.1) = false := by rfl) : PE X (.Call (.Name "sum" p) (e :: es) [] pos) (tCB (rSum K) t) := by
  subst hK
  exact pe_callB (cr_sum hc) hg hm (by decide +kernel) ha (by decide) (by decide) he hpl
theorem pe_min {K : PySem.W.Frag} (hK : X.K = K) (hc : X.calm = true) (hg : Gl X "min") (hm : X.mg "min" = none) (ha : PA X (e :: es) t)
    (he : starEach (e :: es) X.env = (false, eval e X.env) :: starEach es X.env := by rfl) (hpl : (backTo pos (starEach es X.env)).any (·.1) = false := by rfl) : PE X (.Call (.Name "min" p) (e :: es) [] pos) (tCB (rMin K) t) := by
  subst hK
  exact pe_callB (cr_min hc) hg hm (by decide +kernel) ha (by decide) (by decide) he hpl
end
end RT
namespace RT
open PySem PySem.Spec PyProof.Rows L2 Evl
/-! ### alike: the plain law -/
/-- one element more at the end of each row -/
def longerBy (n : Nat) (q : List Nat) : List (List Nat) := ((List.range n).filter fun e => !q.contains e).map fun e => q ++ [e]
def chg (n : Nat) : Nat → List (List Nat)
  | 0 => [[]]
  | k + 1 => (chg n k).flatMap (longerBy n)
theorem longerBy_len (n : Nat) (q : List Nat) : (longerBy n q).length ≤ n := by
  unfold longerBy
  rw [List.length_map]
  have h := List.length_filter_le (fun e => !q.contains e) (List.range n)
  rw [List.length_range] at h
  exact h
theorem flat_len (n : Nat) : ∀ l : List (List Nat), (l.flatMap (longerBy n)).length ≤ l.length * n
  | [] => by simp
  | q :: r => by
    rw [List.flatMap_cons, List.length_append, List.length_cons, Nat.succ_mul]
    have h1 := longerBy_len n q
    have h2 := flat_len n r
    omega
theorem chg_len (n : Nat) : ∀ k : Nat, (chg n k).length ≤ n ^ k
  | 0 => Nat.le_refl _
  | k + 1 => by
    have h1 := flat_len n (chg n k)
    have h2 := Nat.mul_le_mul_right n (chg_len n k)
    rw [Nat.pow_succ]
    exact Nat.le_trans h1 h2
theorem pow_bound {n k : Nat} (hn : n ≤ 6) (hk : k ≤ 6) : n ^ k ≤ 46656 := by
  have h1 : n ^ k ≤ 6 ^ k := Nat.pow_le_pow_left hn k
  have h2 : 6 ^ k ≤ 6 ^ 6 := Nat.pow_le_pow_right (by decide) hk
  exact Nat.le_trans h1 h2
/-- what the rows are -/
theorem chg_row (n : Nat) : ∀ (k : Nat) (q : List Nat), q ∈ chg n k → q.length = k ∧ ∀ e ∈ q, e < n
  | 0, q, h => by
    have e : q = [] := List.mem_singleton.mp h
    subst e
    exact ⟨rfl, fun e h => absurd h (by simp)⟩
  | k + 1, q, h => by
    obtain ⟨p, hp, hq⟩ := List.mem_flatMap.mp h
    obtain ⟨e, he, rfl⟩ := List.mem_map.mp hq
    obtain ⟨h1, h2⟩ := chg_row n k p hp
    refine ⟨by simp [h1], fun x hx => ?_⟩
    rcases List.mem_append.mp hx with m | m
    · exact h2 x m
    · rw [List.mem_singleton.mp m]
      exact List.mem_range.mp (List.mem_filter.mp he).1
/-- a row of elements that are each there once -/
def rowOk (n : Nat) : List Nat → Bool
  | [] => true
  | e :: r => decide (e < n) && (!r.contains e && rowOk n r)
theorem chg_has (n : Nat) : ∀ (q : List Nat), rowOk n q = true → q.reverse ∈ chg n q.length
  | [], _ => List.mem_singleton.mpr rfl
  | e :: r, h => by
    have h' : (decide (e < n) && (!r.contains e && rowOk n r)) = true := h
    rw [Bool.and_eq_true, Bool.and_eq_true, decide_eq_true_eq] at h'
    obtain ⟨h1, h2, h3⟩ := h'
    refine List.mem_flatMap.mpr ⟨r.reverse, chg_has n r h3, ?_⟩
    rw [List.reverse_cons]
    refine List.mem_map.mpr ⟨e, List.mem_filter.mpr ⟨List.mem_range.mpr h1, ?_⟩, rfl⟩
    rw [← h2, List.contains_reverse]
theorem chg_in {n : Nat} {q : List Nat} (hl : q.length = n) (h : rowOk n q.reverse = true) : q ∈ chg n n := by
  have := chg_has n q.reverse h
  rw [List.reverse_reverse, List.length_reverse, hl] at this
  exact this
/-- the place of the greatest element, and the row without it -/
def ordOk : Nat → List Nat → Bool
  | 0, p => p.isEmpty
  | n + 1, p => (List.range (n + 1)).any fun i => (p == (p.eraseIdx i).take i ++ n :: (p.eraseIdx i).drop i) && ordOk n (p.eraseIdx i)
theorem ord_in : ∀ (n : Nat) (p : List Nat), ordOk n p = true → p ∈ Sv84Neutral.orders n
  | 0, p, h => by
    have e : p = [] := List.isEmpty_iff.mp h
    subst e
    exact List.mem_singleton.mpr rfl
  | n + 1, p, h => by
    obtain ⟨i, hi, h2⟩ := List.any_eq_true.mp h
    rw [Bool.and_eq_true] at h2
    obtain ⟨h3, h4⟩ := h2
    refine List.mem_flatMap.mpr ⟨p.eraseIdx i, ord_in n _ h4, List.mem_map.mpr ⟨i, hi, ?_⟩⟩
    exact (eq_of_beq h3).symm
theorem chg_ord : ∀ n : Nat, n ≤ 6 → (chg n n).all (ordOk n) = true
  | 0, _ => by decide +kernel
  | 1, _ => by decide +kernel
  | 2, _ => by decide +kernel
  | 3, _ => by decide +kernel
  | 4, _ => by decide +kernel
  | 5, _ => by decide +kernel
  | 6, _ => by decide +kernel
  | n + 7, h => by omega
theorem ord_chg : ∀ n : Nat, n ≤ 6 → (Sv84Neutral.orders n).all (fun q => (q.length == n) && rowOk n q.reverse) = true
  | 0, _ => by decide +kernel
  | 1, _ => by decide +kernel
  | 2, _ => by decide +kernel
  | 3, _ => by decide +kernel
  | 4, _ => by decide +kernel
  | 5, _ => by decide +kernel
  | 6, _ => by decide +kernel
  | n + 7, h => by omega
theorem chg_iff {n : Nat} (hn : n ≤ 6) (q : List Nat) : q ∈ chg n n ↔ q ∈ Sv84Neutral.orders n := by
  refine ⟨fun h => ord_in n q (List.all_eq_true.mp (chg_ord n hn) q h), fun h => ?_⟩
  have := List.all_eq_true.mp (ord_chg n hn) q h
  rw [Bool.and_eq_true] at this
  exact chg_in (eq_of_beq this.1) this.2
/-! ### the least of some numbers -/
theorem fold_min : ∀ (l : List Nat) (b : Nat), l.foldl min b ≤ b ∧ (∀ x ∈ l, l.foldl min b ≤ x) ∧ (l.foldl min b = b ∨ l.foldl min b ∈ l)
  | [], b => ⟨Nat.le_refl _, fun x h => absurd h (by simp), .inl rfl⟩
  | a :: l, b => by
    obtain ⟨h1, h2, h3⟩ := fold_min l (min b a)
    show l.foldl min (min b a) ≤ b ∧ (∀ x ∈ a :: l, l.foldl min (min b a) ≤ x) ∧ (l.foldl min (min b a) = b ∨ l.foldl min (min b a) ∈ a :: l)
    refine ⟨Nat.le_trans h1 (Nat.min_le_left _ _), fun x hx => ?_, ?_⟩
    · rcases List.mem_cons.mp hx with e | m
      · rw [e]
        exact Nat.le_trans h1 (Nat.min_le_right _ _)
      · exact h2 x m
    · rcases h3 with h3 | h3
      · rcases Nat.le_total b a with h | h
        · rw [Nat.min_eq_left h] at h3 ⊢
          exact .inl h3
        · rw [Nat.min_eq_right h] at h3 ⊢
          exact .inr (by rw [h3]; exact List.mem_cons_self ..)
      · exact .inr (List.mem_cons_of_mem _ h3)
theorem tabTo_lt (f : Nat → Bool) : ∀ i : Nat, tabTo f i < 2 ^ i
  | 0 => Nat.zero_lt_one
  | i + 1 => by
    have h := tabTo_lt f i
    rw [tabTo_succ, Nat.pow_succ]
    split <;> omega
theorem alike_min {n t m : Nat} (hn : n ≤ 6) (h1 : m ∈ (chg n n).map fun p => Sv84.moved n p t) (h2 : ∀ y ∈ (chg n n).map fun p => Sv84.moved n p t, m ≤ y) : m = Sv84Neutral.alikeOf n t := by
  unfold Sv84Neutral.alikeOf
  obtain ⟨a1, a2, a3⟩ := fold_min ((Sv84Neutral.orders n).map fun p => Sv84.moved n p t) (2 ^ 2 ^ n)
  obtain ⟨p, hp, rfl⟩ := List.mem_map.mp h1
  have b1 := a2 _ (List.mem_map.mpr ⟨p, (chg_iff hn p).mp hp, rfl⟩)
  have b2 : Sv84.moved n p t < 2 ^ 2 ^ n := tabTo_lt _ (2 ^ n)
  rcases a3 with a3 | a3
  · exact absurd (Nat.lt_of_lt_of_le b2 (Nat.le_trans (Nat.le_of_eq a3.symm) b1)) (Nat.lt_irrefl _)
  · obtain ⟨q, hq, e⟩ := List.mem_map.mp a3
    have b3 : Sv84.moved n p t ≤ Sv84.moved n q t := h2 _ (List.mem_map.mpr ⟨q, (chg_iff hn q).mpr hq, rfl⟩)
    exact Nat.le_antisymm (Nat.le_trans b3 (Nat.le_of_eq e)) b1
/-! ### where a set is taken -/
def thereL (n : Nat) (p : List Nat) (x : Nat) : List Nat := ((List.range n).filter fun e => x.testBit e).map fun e => 2 ^ p.getD e 0
theorem sum_there (g : Nat → Nat) (c : Nat → Bool) : ∀ l : List Nat, ((l.filter c).map g).sum = (l.map fun i => if c i = true then g i else 0).sum
  | [] => rfl
  | a :: l => by
    rw [List.filter_cons, List.map_cons, List.sum_cons, ← sum_there g c l]
    by_cases h : c a = true
    · rw [if_pos h, if_pos h, List.map_cons, List.sum_cons]
    · rw [if_neg h, if_neg h, Nat.zero_add]
def movF (n : Nat) (p : List Nat) (t x : Nat) : Bool := Sv84.gives t (((List.range n).map fun i => if x.testBit i = true then 2 ^ p.getD i 0 else 0).sum)
theorem movF_is (n : Nat) (p : List Nat) (t x : Nat) : bt t (thereL n p x).sum = (movF n p t x).toNat := by
  unfold movF thereL Sv84.gives
  rw [bt_eq, sum_there (fun e => 2 ^ p.getD e 0) (fun e => x.testBit e)]
theorem moved_turn (n : Nat) (p : List Nat) (t i : Nat) : V.int (((tabTo (movF n p t) i : Nat) : Int) + ((bt t (thereL n p i).sum : Nat) : Int) * 2 ^ ((i : Nat) : Int).toNat) = vN (tabTo (movF n p t) (i + 1)) := by
  rw [tabTo_succ, movF_is]
  unfold vN
  rw [Int.toNat_natCast]
  cases movF n p t i with
  | true =>
    show V.int (_ + 1 * _) = V.int _
    simp
  | false =>
    show V.int (_ + 0 * _) = V.int _
    simp
end RT
namespace RT
open PySem PySem.Spec PyProof.Rows L2 Evl
/-! ### lists of lists in the heap -/
abbrev Rows (H : Hp) (as : List Addr) (ls : List (List Nat)) : Prop := Paired (fun a l => H a = some (.lst (l.map vN))) as ls
structure LL (H : Hp) (p : Addr) (as : List Addr) (ls : List (List Nat)) : Prop where
  at_ : H p = some (.lst (as.map V.ref))
  out : p ∉ as
  rows : Rows H as ls
theorem Rows.mono {H H' : Hp} {as : List Addr} {ls : List (List Nat)} (e : Ex H H') (h : Rows H as ls) : Rows H' as ls := Paired.mapP h fun a l q => e a _ q
theorem LL.mono {H H' : Hp} {p : Addr} {as : List Addr} {ls : List (List Nat)} (e : Ex H H') (h : LL H p as ls) : LL H' p as ls := ⟨e p _ h.at_, h.out, h.rows.mono e⟩
theorem paired_app {α β : Type} {F : α → β → Prop} : ∀ {a a' : List α} {b b' : List β}, Paired F a b → Paired F a' b' → Paired F (a ++ a') (b ++ b')
  | _, _, _, _, .nil, h => h
  | _, _, _, _, .cons r t, h => .cons r (paired_app t h)
theorem paired_get {α β : Type} {F : α → β → Prop} : ∀ {a : List α} {b : List β} {i : Nat} {x : α}, Paired F a b → a[i]? = some x → ∃ y, b[i]? = some y ∧ F x y
  | _, _, _, _, .nil, e => by simp at e
  | _, _, 0, _, .cons r _, e => by
    simp at e
    subst e
    exact ⟨_, rfl, r⟩
  | _, _, i + 1, x, .cons _ t, e => by
    obtain ⟨y, h1, h2⟩ := paired_get (i := i) (x := x) t (by simpa using e)
    exact ⟨y, by simpa using h1, h2⟩
theorem paired_len {α β : Type} {F : α → β → Prop} : ∀ {a : List α} {b : List β}, Paired F a b → a.length = b.length
  | _, _, .nil => rfl
  | _, _, .cons _ t => by rw [List.length_cons, List.length_cons, paired_len t]
/-- a row's place is known -/
theorem rows_known {H : Hp} {as : List Addr} {ls : List (List Nat)} (h : Rows H as ls) {a : Addr} (ha : a ∈ as) : ∃ o, H a = some o := by
  obtain ⟨i, hi⟩ := List.mem_iff_getElem?.mp ha
  obtain ⟨l, _, e⟩ := paired_get h hi
  exact ⟨_, e⟩
theorem Rows.upd {H : Hp} {p : Addr} {o : HO} : ∀ {as : List Addr} {ls : List (List Nat)}, Rows H as ls → p ∉ as → Rows (upd H p o) as ls
  | _, _, .nil, _ => .nil
  | _, _, .cons r t, h => .cons (by
      rw [upd_ne (fun e => h (by rw [e]; exact List.mem_cons_self ..))]
      exact r) (Rows.upd t fun m => h (List.mem_cons_of_mem _ m))
section
variable {K : PySem.W.Frag} {σ : L2.St} {H : Hp} {ta tb te tl : TE} {t : TT}
/-- a new list of lists -/
def EvM (te : TE) (σ : L2.St) (H : Hp) (ls : List (List Nat)) : Prop := ∀ H1, Ex H H1 → ∀ Q : VK, (∀ p as H2, H1 p = none → Ex H1 H2 → LL H2 p as ls → Q (.ref p) H2) → te σ H1 Q
def pM (R : Hp → List V → List (List Nat) → Prop) : Sp := fun vs H Q _ => ∃ ls, R H vs ls ∧ ∀ p as H', H p = none → Ex H H' → LL H' p as ls → Q (.ref p) H'
theorem em_rdy {R : Hp → List V → List (List Nat) → Prop} {tA : TA} {E : XK} {vs : List V} {ls : List (List Nat)} (h : EvA tA σ H vs) (hR : ∀ H1, Ex H H1 → R H1 vs ls) : EvM (tCall (pM R) [] E tA) σ H ls := fun H1 e Q q =>
  h H1 e _ fun H2 e2 => ⟨ls, by rw [List.append_nil]; exact hR H2 (e.trans e2), fun p as H3 hp e3 h3 => q p as H3 (fresh_back e2 hp) (e2.trans e3) h3⟩
/-- xs + [..] -/
theorem el_catR {b : Addr} {xs zs : List V} (ha : Ev ta σ H (.ref b)) (hb : EvL tb σ H zs) (hz : H b = some (.lst xs)) (hl : xs.length + zs.length ≤ 100000) : EvL (tOp rCat ta tb) σ H (xs ++ zs) := fun H1 e Q q =>
  ha H1 e _ fun H2 e2 => hb H2 (e.trans e2) _ fun p H3 hp e3 h3 => ⟨b, p, xs, zs, rfl, rfl, ((e.trans e2).trans e3) b _ hz, h3, sz_of hl, fun r hr => q r _ (fresh_back (e2.trans e3) hr) ((e2.trans e3).trans (Ex.new hr)) upd_same⟩
/-- rows + rows -/
theorem em_cat {b : Addr} {as : List Addr} {ls ms : List (List Nat)} (ha : Ev ta σ H (.ref b)) (hb : EvM tb σ H ms) (hz : LL H b as ls) (hl : ls.length + ms.length ≤ 100000) : EvM (tOp rCat ta tb) σ H (ls ++ ms) := fun H1 e Q q =>
  ha H1 e _ fun H2 e2 => hb H2 (e.trans e2) _ fun p cs H3 hp e3 h3 => by
    have hz3 := hz.mono ((e.trans e2).trans e3)
    have l1 := paired_len hz3.rows
    have l2 := paired_len h3.rows
    refine ⟨b, p, as.map V.ref, cs.map V.ref, rfl, rfl, hz3.at_, h3.at_, sz_of (by rw [List.length_map, List.length_map]; omega), fun r hr => ?_⟩
    have n1 : r ∉ as := fun m => by
      obtain ⟨o, h⟩ := rows_known hz3.rows m
      rw [hr] at h
      cases h
    have n2 : r ∉ cs := fun m => by
      obtain ⟨o, h⟩ := rows_known h3.rows m
      rw [hr] at h
      cases h
    refine q r (as ++ cs) _ (fresh_back (e2.trans e3) hr) ((e2.trans e3).trans (Ex.new hr)) ⟨?_, ?_, ?_⟩
    · rw [upd_same, List.map_append]
    · intro m
      rcases List.mem_append.mp m with m | m
      · exact n1 m
      · exact n2 m
    · exact paired_app (Rows.upd hz3.rows n1) (Rows.upd h3.rows n2)
/-- a comprehension over a range whose items are new lists -/
def Cm (H : Hp) (f : Nat → Bool) (v : Nat → List Nat) (Dl : Addr) (i : Nat) (H' : Hp) : Prop := H Dl = none ∧ Ex H H' ∧ ∃ as, LL H' Dl as (((List.range i).filter f).map v)
theorem cm_yes {f : Nat → Bool} {v : Nat → List Nat} {i : Nat} (h : f i = true) : ((List.range (i + 1)).filter f).map v = ((List.range i).filter f).map v ++ [v i] := by
  rw [List.range_succ, List.filter_append, List.map_append, List.filter_cons, if_pos h] <;> rfl
theorem cm_no {f : Nat → Bool} {v : Nat → List Nat} {i : Nat} (h : f i = false) : ((List.range (i + 1)).filter f).map v = ((List.range i).filter f).map v := by
  rw [List.range_succ, List.filter_append, List.map_append, List.filter_cons, if_neg (by rw [h]; decide), List.filter_nil, List.map_nil, List.append_nil]
theorem cm_len (f : Nat → Bool) (v : Nat → List Nat) (i : Nat) : (((List.range i).filter f).map v).length ≤ i := by
  rw [List.length_map]
  have h := List.length_filter_le f (List.range i)
  rw [List.length_range] at h
  exact h
theorem cm_turn {H' : Hp} {f : Nat → Bool} {v : Nat → List Nat} {Dl : Addr} {i : Nat} {σ2 : L2.St} (p : Cm H f v Dl i H') (hi : i < 50000) (ht : EvT t σ2 H (f i)) (he : f i = true → EvL te σ2 H ((v i).map vN)) :
    t σ2 H' fun b H3 => if b = true then te σ2 H3 fun y H4 => ∃ acc, H4 Dl = some (.lst acc) ∧ acc.length < sizeLine ∧ Cm H f v Dl (i + 1) (upd H4 Dl (.lst (acc ++ [y]))) else Cm H f v Dl (i + 1) H3 := by
  obtain ⟨p1, p2, as, p3⟩ := p
  refine ht H' p2 _ fun H3 e3 => ?_
  cases hf : f i with
  | true =>
    show te σ2 H3 fun y H4 => ∃ acc, H4 Dl = some (.lst acc) ∧ acc.length < sizeLine ∧ Cm H f v Dl (i + 1) (upd H4 Dl (.lst (acc ++ [y])))
    refine he hf H3 (p2.trans e3) _ fun a H4 ha e4 h4 => ?_
    have l1 := paired_len p3.rows
    have l2 := cm_len f v i
    have q3 := p3.mono (e3.trans e4)
    have nD : Dl ≠ a := fun e => by
      rw [← e, e3 Dl _ p3.at_] at ha
      cases ha
    refine ⟨as.map V.ref, q3.at_, sz_lt (by rw [List.length_map]; omega), p1, Ex.mut ((p2.trans e3).trans e4) p1, as ++ [a], ?_, ?_, ?_⟩
    · rw [upd_same, List.map_append]
      rfl
    · intro m
      rcases List.mem_append.mp m with m | m
      · exact q3.out m
      · exact nD (List.mem_singleton.mp m)
    · rw [cm_yes hf]
      refine paired_app (Rows.upd q3.rows q3.out) (.cons ?_ .nil)
      rw [upd_ne nD.symm]
      exact h4
  | false =>
    show Cm H f v Dl (i + 1) H3
    refine ⟨p1, p2.trans e3, as, ?_⟩
    rw [cm_no hf]
    exact p3.mono e3
theorem em_lcR1 {tA : TA} {j : Nat} {vs : List Nat} {n : Int} (f : Nat → Bool) (v : Nat → List Nat) (h : EvA tA σ H [.int n]) (hn : 0 ≤ n ∧ n ≤ 40000) (hw : ∀ x, wipe ((wipe σ vs).set j (some x)) vs = wipe σ vs)
    (ht : ∀ (i : Nat) H1, Ex H H1 → (i : Int) < n → EvT t ((wipe σ vs).set j (some (.int (i : Int)))) H1 (f i)) (he : ∀ (i : Nat) H1, Ex H H1 → (i : Int) < n → f i = true → EvL te ((wipe σ vs).set j (some (.int (i : Int)))) H1 ((v i).map vN)) :
    EvM (tLc (iRng1 tA) (gName j) t te vs) σ H (((List.range n.toNat).filter f).map v) := fun H0 e Q q => h H0 e _ fun H1 e1 => ⟨n, rfl, by omega, by omega, fun Dl hD =>
  lc_range (lo := 0) (n := n.toNat) (Cm H1 f v Dl) ⟨hD, Ex.new hD, [], upd_same, by simp, .nil⟩ (fun i H' hi p => by
    have e0 : (0 : Int) + (i : Int) = (i : Int) := Int.zero_add _
    show wipe ((wipe σ vs).set j (some (.int ((0 : Int) + (i : Int))))) vs = wipe σ vs ∧ t ((wipe σ vs).set j (some (.int ((0 : Int) + (i : Int))))) H' fun b H3 => if b = true then te ((wipe σ vs).set j (some (.int ((0 : Int) + (i : Int))))) H3 fun y H4 => ∃ acc, H4 Dl = some (.lst acc) ∧ acc.length < sizeLine ∧ Cm H1 f v Dl (i + 1) (upd H4 Dl (.lst (acc ++ [y]))) else Cm H1 f v Dl (i + 1) H3
    rw [e0]
    exact ⟨hw _, cm_turn p (by omega) (ht i H1 (e.trans e1) (by omega)) (fun hf => he i H1 (e.trans e1) (by omega) hf)⟩) (fun H' p => by
      obtain ⟨a1, a2, as, a3⟩ := p
      exact q Dl as H' (fresh_back e1 a1) (e1.trans a2) a3)⟩
/-- a comprehension over a new list of lists, its items values -/
theorem el_lcM {ls : List (List Nat)} {j : Nat} {vs : List Nat} (v : Nat → V) (h : EvM tl σ H ls) (hz : ls.length ≤ 49000) (hw : ∀ x, wipe ((wipe σ vs).set j (some x)) vs = wipe σ vs)
    (he : ∀ (i : Nat) (l : List Nat) (a : Addr) H1, Ex H H1 → ls[i]? = some l → H1 a = some (.lst (l.map vN)) → Ev te ((wipe σ vs).set j (some (.ref a))) H1 (v i)) :
    EvL (tLc (iList K tl) (gName j) tYes te vs) σ H (given ls.length (fun _ => true) v) := fun H0 e Q q => h H0 e _ fun p as H1 ha e1 hx => by
  have l1 := paired_len hx.rows
  refine ⟨p, rfl, ⟨_, sq_of hx.at_⟩, fun Dl hD => ?_⟩
  have l2 : ls.length = (as.map V.ref).length := by
    rw [List.length_map]
    exact l1.symm
  rw [l2] at q
  refine lc_list (xs := as.map V.ref) (Cw H1 (fun _ => true) v Dl) ⟨hD, Ex.new hD, upd_same⟩ (fun i H' _ p => sq_of (p.2.1 _ _ hx.at_)) (fun i x H' hi p => ⟨hw x, cw_turn p ?_ (fun H2 _ Q k => k H2 (Ex.refl H2)) (fun _ => ?_)⟩)
    (fun H' p => q Dl H' (fresh_back e1 p.1) (e1.trans p.2.1) p.2.2)
  · have := (List.getElem?_eq_some_iff.mp hi).1
    rw [List.length_map] at this
    omega
  · rw [List.getElem?_map] at hi
    cases ea : as[i]? with
    | none => rw [ea] at hi; cases hi
    | some a =>
      rw [ea] at hi
      obtain rfl : V.ref a = x := Option.some.inj hi
      obtain ⟨l, h1, h2⟩ := paired_get hx.rows ea
      exact he i l a H1 (e.trans e1) h1 h2
theorem s_asgM {i : Nat} {ls : List (List Nat)} {D : Ends} (h : EvM te σ H ls) (k : ∀ p as H1, H p = none → Ex H H1 → LL H1 p as ls → D.nx (σ.set i (some (.ref p))) H1) : tAsg te (gName i) D σ H := h H (Ex.refl H) _ fun p as H1 hp e h1 => k p as H1 hp e h1
theorem ix_listK {X : Cx} (hK : X.K = K) : IxR X (rIxL K) := by
  subst hK
  exact ix_list
theorem op_notInK {X : Cx} (hK : X.K = K) : OpR X (compareOp .NotIn) (rIn K true) := by
  subst hK
  exact op_notIn_seq
theorem flat_nats (q : List Nat) : (q.map vN).all flatV = true := by
  rw [List.all_map]
  exact List.all_eq_true.mpr fun _ _ => rfl
theorem inV_nats (e : Nat) : ∀ q : List Nat, inV (vN e) (q.map vN) = q.contains e
  | [] => rfl
  | a :: r => by
    have ih := inV_nats e r
    unfold inV at ih ⊢
    rw [List.map_cons, List.any_cons, ih, List.contains_cons]
    congr 1
    show ((a : Int) == (e : Int)) = (e == a)
    by_cases h : a = e
    · subst h
      simp
    · rw [beq_eq_false_iff_ne.mpr (fun z => h z.symm), beq_eq_false_iff_ne]
      exact fun z => h (Int.ofNat_inj.mp z)
/-- the least of a new list -/
theorem ev_minN {ns : List Nat} {m : Nat} (ha : EvL ta σ H (ns.map vN)) (hn : 0 < ns.length) (hm : ∀ k, k ∈ ns → (∀ y, y ∈ ns → k ≤ y) → k = m) : Ev (tCB (rMin K) (tCons ta tNil)) σ H (vN m) := fun H1 e Q q =>
  ha H1 e _ fun p H2 _ e2 h2 => ⟨p, ns.map fun (k : Nat) => (k : Int), rfl, sq_of (by rw [h2, map_vN]), by rw [List.length_map]; exact hn, fun z hz hl => by
    obtain ⟨k, hk, rfl⟩ := List.mem_map.mp hz
    have ek : k = m := hm k hk fun y hy => Int.ofNat_le.mp (hl _ (List.mem_map.mpr ⟨y, hy, rfl⟩))
    rw [ek]
    exact q H2 e2⟩
end
end RT
namespace RT
open PySem PySem.Spec PyProof.Rows L2 Evl
/-! ### the text by places -/
def topS (i : Nat) : Stmt := PySem.Challenge.pw_risingtables_s06_alike.main.body.getD i (.Pass ⟨0, 0, 0, 0⟩)
section
variable {P : Program} {w : World} {K : PySem.W.Frag} {mg : Str → Option Value} {base : Heap}
/-! ### size_of -/
abbrev s_size_of : Stmt := topS 1
theorem sc_size_of : FnScope ["n"] ["n"] (defScope s_size_of) := ⟨rfl, rfl, rfl, by decide +kernel, rfl, by decide +kernel, by decide +kernel⟩
def r_size_of (_ : Hp) (vs : List V) (z : V) : Prop := ∃ n : Nat, n ≤ 64 ∧ vs = [vN n] ∧ z = vN (2 ^ n)
theorem ok_size_of {f : Addr} {fd : FuncData} (F : Fun K "size_of" "size_of" s_size_of f fd) : FnOk P w K mg base CX0 1 f fd ["n"] (pV r_size_of) := by
  refine F.ok sc_size_of (fun vs H Q E h => ?_) (fun cdv A outer s H vs Q E hr h => ?_)
  · obtain ⟨z, ⟨n, hn, rfl, rfl⟩, _⟩ := h
    rfl
  · obtain ⟨z, ⟨n, hn, rfl, rfl⟩, q⟩ := h
    refine ⟨_, pss_one (ps_ret (pe_op op_shl pe_int (pv 0))), ?_⟩
    refine s_ret (ev_is (ev_op ev_c (ev_var rfl) (rv_I (cpow_nat (a := 1) (by omega) (by decide)))) ?_) q
    exact (shl_nat 1 n).trans (by rw [Nat.one_mul])
/-! ### bit -/
abbrev s_bit : Stmt := topS 2
theorem sc_bit : FnScope ["t", "x"] ["t", "x"] (defScope s_bit) := ⟨rfl, rfl, rfl, by decide +kernel, rfl, by decide +kernel, by decide +kernel⟩
def r_bit (_ : Hp) (vs : List V) (z : V) : Prop := ∃ t x : Nat, vs = [vN t, vN x] ∧ z = vN (bt t x)
theorem ok_bit {f : Addr} {fd : FuncData} (F : Fun K "bit" "bit" s_bit f fd) : FnOk P w K mg base CX0 1 f fd ["t", "x"] (pV r_bit) := by
  refine F.ok sc_bit (fun vs H Q E h => ?_) (fun cdv A outer s H vs Q E hr h => ?_)
  · obtain ⟨z, ⟨t, x, rfl, rfl⟩, _⟩ := h
    rfl
  · obtain ⟨z, ⟨t, x, rfl, rfl⟩, q⟩ := h
    refine ⟨_, pss_one (ps_ret (pe_op op_mod (pe_op op_shr (pv 0) (pv 1)) pe_int)), ?_⟩
    exact s_ret (ev_is (ev_op (ev_op (ev_var rfl) (ev_var rfl) (rv_I (Int.natCast_nonneg x))) ev_c (rv_I (by show (0 : Int) < 2; decide))) (shr_nat t x)) q
/-! ### has -/
abbrev s_has : Stmt := topS 3
theorem sc_has : FnScope ["x", "element"] ["x", "element"] (defScope s_has) := ⟨rfl, rfl, rfl, by decide +kernel, rfl, by decide +kernel, by decide +kernel⟩
def r_has (_ : Hp) (vs : List V) (z : V) : Prop := ∃ x e : Nat, vs = [vN x, vN e] ∧ z = .bl (x.testBit e)
theorem ok_has {f : Addr} {fd : FuncData} (F : Fun K "has" "has" s_has f fd) : FnOk P w K mg base CX0 1 f fd ["x", "element"] (pV r_has) := by
  refine F.ok sc_has (fun vs H Q E h => ?_) (fun cdv A outer s H vs Q E hr h => ?_)
  · obtain ⟨z, ⟨x, e, rfl, rfl⟩, _⟩ := h
    rfl
  · obtain ⟨z, ⟨x, e, rfl, rfl⟩, q⟩ := h
    refine ⟨_, pss_one (ps_ret (pe_cmpR op_eq (pe_op op_mod (pe_op op_shr (pv 0) (pv 1)) pe_int) pe_int (nomark _))), ?_⟩
    exact s_ret (ev_is (ev_op (ev_is (ev_op (ev_op (ev_var rfl) (ev_var rfl) (rv_I (Int.natCast_nonneg e))) ev_c (rv_I (by show (0 : Int) < 2; decide))) (shr_nat x e)) ev_c (rv_eq rfl)) (congrArg V.bl bt_one)) q
/-! ### changed -/
abbrev s_changed : Stmt := topS 4
theorem sc_changed : FnScope ["n", "t", "places", "found", "x", "there", "element"] ["n", "t", "places"] (defScope s_changed) := ⟨rfl, rfl, rfl, by decide +kernel, rfl, by decide +kernel, by decide +kernel⟩
def r_changed (K : PySem.W.Frag) (H : Hp) (vs : List V) (z : V) : Prop := ∃ (n t : Nat) (a : Addr) (p : List Nat), n ≤ 6 ∧ p.length = n ∧ (∀ e ∈ p, e < n) ∧ vs = [vN n, vN t, .ref a] ∧ SqL K H a (p.map vN) ∧ z = vN (Sv84.moved n p t)
theorem getD_lt {n : Nat} {p : List Nat} {i : Nat} (hp : ∀ e ∈ p, e < n) (hi : i < p.length) : p.getD i 0 < n := by
  rw [List.getD_eq_getElem?_getD, List.getElem?_eq_getElem hi]
  exact hp _ (List.getElem_mem hi)
theorem atI_nats {p : List Nat} {i : Nat} (hi : i < p.length) : atI (p.map vN) (i : Int) = some (vN (p.getD i 0)) := by
  refine atI_nat ?_
  rw [List.getElem?_map, List.getD_eq_getElem?_getD, List.getElem?_eq_getElem hi]
  rfl
theorem ok_changed {f : Addr} {fd : FuncData} (F : Fun K "changed" "changed" s_changed f fd) (R_size_of : Rdy P w K mg base "size_of" 1 ["n"] (pV r_size_of)) (R_bit : Rdy P w K mg base "bit" 1 ["t", "x"] (pV r_bit)) (R_has : Rdy P w K mg base "has" 1 ["x", "element"] (pV r_has)) (z_range : mg "range" = none) (z_sum : mg "sum" = none) : FnOk P w K mg base CX0 2 f fd ["n", "t", "places"] (pV (r_changed K)) := by
  refine F.ok sc_changed (fun vs H Q E h => ?_) (fun cdv A outer s H vs Q E hr h => ?_)
  · obtain ⟨z, ⟨n, t, a, p, hn, hl, hp, rfl, hs, rfl⟩, _⟩ := h
    rfl
  · obtain ⟨z, ⟨n, t, a, p, hn, hl, hp, rfl, hs, rfl⟩, q⟩ := h
    have h64 := pow_le_64 hn
    have hq : 0 < 2 ^ n := Nat.two_pow_pos n
    refine ⟨_, pss_cons (ps_set (i := 3) sc_changed.nd rfl (.inl rfl) pe_int)
      (pss_cons (ps_for PassesOwn.never rfl (pi_range1 rfl z_range (pa_cons (pe_rdy R_size_of (hr.mono (by decide)) rfl (pa_cons (pv 0) pa_nil)) pa_nil)) (pg_name (i := 4) sc_changed.nd rfl (.inr rfl))
        (pss_cons (ps_set (i := 5) sc_changed.nd rfl (.inl rfl) (pe_sum (K := K) rfl rfl rfl z_sum (pa_cons (pe_lc (own := [("element", 6)]) (g := gName 6) rfl sc_changed.nd (pi_range1 rfl z_range (pa_cons (pv 0) pa_nil)) (blkOk_by (N := ["n", "t", "places", "found", "x", "there", "element"]) (sc := defScope s_changed) (by decide +kernel))
            (fun _ _ _ _ _ => pg_name (i := 6) sc_changed.nd rfl (Or.inl rfl)) (fun _ _ _ _ _ => pts_one (pt_val (pe_rdy R_has (hr.mono (by decide)) rfl (pa_cons (pv 4) (pa_cons (pv 6) pa_nil)))))
            (fun _ _ _ _ _ => pe_op op_shl pe_int (pe_ix (ix_listK (K := K) rfl) (pv 2) (pv 6) (fun _ _ => rfl)))) pa_nil)))
        (pss_one (ps_set (i := 3) sc_changed.nd rfl (.inl rfl) (pe_op op_add (pv 3) (pe_op op_shl (pe_rdy R_bit (hr.mono (by decide)) rfl (pa_cons (pv 1) (pa_cons (pv 5) pa_nil))) (pv 4)))))))
      (pss_one (ps_ret (pv 3)))), ?_⟩
    refine q_asg ev_c fun H1 e1 => ?_
    refine q_forR1 (n := ((2 ^ n : Nat) : Int)) (ea_cons (ev_rdy (ea_cons (ev_var rfl) ea_nil) fun H1 _ => ⟨n, by omega, rfl, rfl⟩) ea_nil) ⟨by omega, by omega⟩
      (fun i σ' H' => ∃ v w, σ' = [some (vN n), some (vN t), some (.ref a), some (vN (tabTo (movF n p t) i)), v, w, none] ∧ Ex H H') (fun H3 e3 => ⟨none, none, rfl, e1.trans e3⟩) ?_ ?_
    · rintro i σ' H' hi ⟨v, w, rfl, e3⟩
      have hi2 : i < 2 ^ n := by omega
      refine q_asg (v := vN (thereL n p i).sum) (ev_sumN (K := K) (el_is (el_lcR1 (j := 6) (n := (n : Int)) (fun e => i.testBit e) (fun e => vN (2 ^ p.getD e 0)) (ea_cons (ev_var rfl) ea_nil) ⟨by omega, by omega⟩ (fun _ => rfl)
        (fun e H4 _ he => et_B (ev_rdy (ea_cons (ev_var rfl) (ea_cons (ev_var rfl) ea_nil)) fun _ _ => ⟨i, e, rfl, rfl⟩)) (fun e H4 e4 he _ => ?_)) ?_)) fun H4 e4 => ?_
      · have he2 : e < p.length := by omega
        have := getD_lt hp he2
        exact ev_is (ev_op ev_c (ev_op (ev_var rfl) (ev_var rfl) (rv_ixL (ex_l (e3.trans e4) hs) (atI_nats he2))) (rv_I (cpow_nat (a := 1) (by omega) (by decide)))) ((shl_nat 1 _).trans (by rw [Nat.one_mul]))
      · unfold given thereL
        rw [Int.toNat_natCast, List.map_map]
        rfl
      · refine s_asg (v := vN (tabTo (movF n p t) (i + 1))) (ev_is (ev_op (ev_var rfl) (ev_op (ev_rdy (z := vN (bt t (thereL n p i).sum)) (ea_cons (ev_var rfl) (ea_cons (ev_var rfl) ea_nil)) fun _ _ => ⟨t, _, rfl, rfl⟩) (ev_var rfl) (rv_I (cpow_nat (by omega) ?_))) rv_I0) (moved_turn n p t i)) fun H5 e5 => ⟨_, _, rfl, (e3.trans e4).trans e5⟩
        rw [bt_eq]
        cases t.testBit (thereL n p i).sum <;> decide
    · rintro σ' H' ⟨v, w, rfl, e3⟩
      rw [Int.toNat_natCast]
      exact s_ret (ev_var rfl) fun H4 e4 => q H4 (e3.trans e4)
/-! ### all_changes -/
abbrev s_all_changes : Stmt := topS 5
theorem sc_all_changes : FnScope ["n", "found", "turn", "longer", "places", "element"] ["n"] (defScope s_all_changes) := ⟨rfl, rfl, rfl, by decide +kernel, rfl, by decide +kernel, by decide +kernel⟩
def r_all_changes (_ : Hp) (vs : List V) (ls : List (List Nat)) : Prop := ∃ n : Nat, n ≤ 6 ∧ vs = [vN n] ∧ ls = chg n n
theorem take_flat {n j : Nat} {ls : List (List Nat)} {l : List Nat} (h : ls[j]? = some l) : (ls.take (j + 1)).flatMap (longerBy n) = (ls.take j).flatMap (longerBy n) ++ longerBy n l := by
  rw [List.take_add_one, h, List.flatMap_append]
  simp
theorem ok_all_changes {f : Addr} {fd : FuncData} (F : Fun K "all_changes" "all_changes" s_all_changes f fd) (z_range : mg "range" = none) : FnOk P w K mg base CX0 1 f fd ["n"] (pM r_all_changes) := by
  refine F.ok sc_all_changes (fun vs H Q E h => ?_) (fun cdv A outer s H vs Q E hr h => ?_)
  · obtain ⟨z, ⟨n, hn, rfl, rfl⟩, _⟩ := h
    rfl
  · obtain ⟨z, ⟨n, hn, rfl, rfl⟩, q⟩ := h
    refine ⟨_, pss_cons (ps_set (i := 1) sc_all_changes.nd rfl (.inl rfl) (pe_lst (pa_cons (pe_lst pa_nil) pa_nil)))
      (pss_cons (ps_for PassesOwn.never rfl (pi_range1 rfl z_range (pa_cons (pv 0) pa_nil)) (pg_name (i := 2) sc_all_changes.nd rfl (.inl rfl))
        (pss_cons (ps_set (i := 3) sc_all_changes.nd rfl (.inl rfl) (pe_lst pa_nil))
        (pss_cons (ps_for PassesOwn.never rfl (pi_list (pv 1)) (pg_name (i := 4) sc_all_changes.nd rfl (.inr rfl))
          (pss_one (ps_set (i := 3) sc_all_changes.nd rfl (.inl rfl) (pe_op op_cat (pv 3) (pe_lc (own := [("element", 5)]) (g := gName 5) rfl sc_all_changes.nd (pi_range1 rfl z_range (pa_cons (pv 0) pa_nil)) (blkOk_by (N := ["n", "found", "turn", "longer", "places", "element"]) (sc := defScope s_all_changes) (by decide +kernel))
            (fun _ _ _ _ _ => pg_name (i := 5) sc_all_changes.nd rfl (Or.inl rfl)) (fun _ _ _ _ _ => pts_one (pt_cmpR (op_notInK (K := K) rfl) (pv 5) (pv 4) (by with_unfolding_all rfl)))
            (fun _ _ _ _ _ => pe_op op_cat (pv 4) (pe_lst (pa_cons (pv 5) pa_nil))))))))
        (pss_one (ps_set (i := 1) sc_all_changes.nd rfl (.inl rfl) (pv 3))))))
      (pss_one (ps_ret (pv 1)))), ?_⟩
    refine ⟨Nat.zero_le _, fun a0 n0 => ⟨by show 1 ≤ sizeLine; decide, fun p0 np0 => ?_⟩⟩
    have ne0 : a0 ≠ p0 := fun e => by
      rw [← e, upd_same] at np0
      cases np0
    have x0 : Ex H (upd H a0 (.lst [])) := Ex.new n0
    have x1 : Ex H (upd (upd H a0 (.lst [])) p0 (.lst [.ref a0])) := x0.trans (Ex.new np0)
    have L0 : LL (upd (upd H a0 (.lst [])) p0 (.lst [.ref a0])) p0 [a0] (chg n 0) := ⟨upd_same, fun m => ne0 (List.mem_singleton.mp m).symm, .cons (by rw [upd_ne ne0, upd_same]; rfl) .nil⟩
    refine q_forR1 (n := (n : Int)) (H := upd (upd H a0 (.lst [])) p0 (.lst [.ref a0])) (ea_cons (ev_var rfl) ea_nil) ⟨by omega, by omega⟩
      (fun i σ' H' => ∃ (p : Addr) (as : List Addr) (v2 v3 v4 : Option V), σ' = [some (vN n), some (.ref p), v2, v3, v4, none] ∧ Ex H H' ∧ H p = none ∧ LL H' p as (chg n i)) (fun H3 e3 => ⟨p0, [a0], none, none, none, rfl, x1.trans e3, fresh_back x0 np0, L0.mono e3⟩) ?_ ?_
    · rintro i σ' H' hi ⟨p, as, v2, v3, v4, rfl, e1, hp, L1⟩
      have hi2 : i < n := by omega
      have len1 : (chg n i).length * n ≤ 46656 := Nat.le_trans (Nat.mul_le_mul_right n (chg_len n i)) (by rw [← Nat.pow_succ]; exact pow_bound hn (by omega))
      have len2 := paired_len L1.rows
      refine q_asgL (el_lst ea_nil (Nat.zero_le _)) fun l0 H2 nl0 e2 h2 => ?_
      refine q_forLn (K := K) (xs := as.map V.ref) (ev_var rfl) (sq_of (e2 _ _ L1.at_))
        (fun j σ2 H3 => ∃ (l : Addr) (bs : List Addr) (w : Option V), σ2 = [some (vN n), some (.ref p), some (.int (i : Int)), some (.ref l), w, none] ∧ Ex H' H3 ∧ H l = none ∧ LL H3 l bs (((chg n i).take j).flatMap (longerBy n)))
        (fun H3 e3 => ⟨l0, [], v4, rfl, e2.trans e3, fresh_back e1 nl0, e3 _ _ h2, by simp, .nil⟩) (fun j σ2 H3 _ ⟨l, bs, w, _, e3, _, _⟩ => sq_of (e3 _ _ L1.at_)) ?_ ?_
      · rintro j y σ2 H3 hj ⟨l, bs, w, rfl, e3, hl, L3⟩
        rw [List.getElem?_map] at hj
        cases ea : as[j]? with
        | none => rw [ea] at hj; cases hj
        | some a =>
          rw [ea] at hj
          obtain rfl : V.ref a = y := Option.some.inj hj
          obtain ⟨row, hrow, ha⟩ := paired_get L1.rows ea
          have hmem : row ∈ chg n i := List.mem_of_getElem? hrow
          have rl := (chg_row n i row hmem).1
          have f1 := flat_len n ((chg n i).take j)
          have f2 := longerBy_len n row
          have f3 : ((chg n i).take j).length ≤ (chg n i).length := by
            rw [List.length_take]
            exact Nat.min_le_right _ _
          have f4 := Nat.mul_le_mul_right n f3
          refine s_asgM (ls := ((chg n i).take j).flatMap (longerBy n) ++ longerBy n row) (em_cat (ev_var rfl) (em_lcR1 (j := 5) (n := (n : Int)) (fun e => !row.contains e) (fun e => row ++ [e]) (ea_cons (ev_var rfl) ea_nil) ⟨by omega, by omega⟩ (fun _ => rfl)
              (fun e H4 e4 he => et_is (et_test (ev_op (ev_var rfl) (ev_var rfl) (rv_niL (K := K) (sq_of (e4 _ _ (e3 _ _ ha))) rfl (flat_nats row)))) (congrArg not (inV_nats e row)))
              (fun e H4 e4 he _ => by
                rw [List.map_append]
                exact el_catR (ev_var rfl) (el_lst (ea_cons (ev_var rfl) ea_nil) (by show 1 ≤ 100000; decide)) (e4 _ _ (e3 _ _ ha)) (by rw [List.length_map]; show _ + 1 ≤ 100000; omega))) L3 ?_) fun r cs H4 nr e4 L4 => ⟨r, cs, some (.ref a), rfl, e3.trans e4, fresh_back (e1.trans e3) nr, ?_⟩
          · have f5 := longerBy_len n row
            unfold longerBy at f5
            omega
          · rw [take_flat hrow]
            exact L4
      · rintro σ2 H3 ⟨l, bs, w, rfl, e3, hl, L3⟩
        rw [List.length_map, len2, List.take_length] at L3
        refine s_asg (ev_var rfl) fun H4 e4 => ⟨l, bs, _, _, _, rfl, (e1.trans e3).trans e4, hl, L3.mono e4⟩
    · rintro σ' H' ⟨p, as, v2, v3, v4, rfl, e1, hp, L1⟩
      rw [Int.toNat_natCast] at L1
      exact s_ret (ev_var rfl) fun H4 e4 => q p as H4 hp (e1.trans e4) (L1.mono e4)
/-! ### least_alike -/
abbrev s_least_alike : Stmt := topS 6
theorem sc_least_alike : FnScope ["n", "t", "places"] ["n", "t"] (defScope s_least_alike) := ⟨rfl, rfl, rfl, by decide +kernel, rfl, by decide +kernel, by decide +kernel⟩
def r_least_alike (_ : Hp) (vs : List V) (z : V) : Prop := ∃ n t : Nat, n ≤ 6 ∧ vs = [vN n, vN t] ∧ z = vN (Sv84Neutral.alikeOf n t)
theorem chg_some : ∀ n : Nat, n ≤ 6 → 0 < (chg n n).length
  | 0, _ => by decide +kernel
  | 1, _ => by decide +kernel
  | 2, _ => by decide +kernel
  | 3, _ => by decide +kernel
  | 4, _ => by decide +kernel
  | 5, _ => by decide +kernel
  | 6, _ => by decide +kernel
  | n + 7, h => by omega
theorem given_rows (n t : Nat) (ls : List (List Nat)) : given ls.length (fun _ => true) (fun i => vN (Sv84.moved n (ls.getD i []) t)) = (ls.map fun p => Sv84.moved n p t).map vN := by
  unfold given
  rw [List.filter_eq_self.mpr (fun _ _ => rfl)]
  have e := range_getD [] ls
  have e2 : ((List.range ls.length).map (fun i => ls.getD i [])).map (fun p => vN (Sv84.moved n p t)) = ls.map (fun p => vN (Sv84.moved n p t)) := by rw [e]
  rw [List.map_map] at e2
  rw [List.map_map]
  exact e2
theorem ok_least_alike {f : Addr} {fd : FuncData} (F : Fun K "least_alike" "least_alike" s_least_alike f fd) (R_changed : Rdy P w K mg base "changed" 2 ["n", "t", "places"] (pV (r_changed K))) (R_all_changes : Rdy P w K mg base "all_changes" 1 ["n"] (pM r_all_changes)) (z_min : mg "min" = none) : FnOk P w K mg base CX0 3 f fd ["n", "t"] (pV r_least_alike) := by
  refine F.ok sc_least_alike (fun vs H Q E h => ?_) (fun cdv A outer s H vs Q E hr h => ?_)
  · obtain ⟨z, ⟨n, t, hn, rfl, rfl⟩, _⟩ := h
    rfl
  · obtain ⟨z, ⟨n, t, hn, rfl, rfl⟩, q⟩ := h
    refine ⟨_, pss_one (ps_ret (pe_min (K := K) rfl rfl rfl z_min (pa_cons (pe_lc (own := [("places", 2)]) (g := gName 2) (tt := tYes) rfl sc_least_alike.nd (pi_list (pe_rdy R_all_changes (hr.mono (by decide)) rfl (pa_cons (pv 0) pa_nil))) (blkOk_by (N := ["n", "t", "places"]) (sc := defScope s_least_alike) (by decide +kernel))
      (fun _ _ _ _ _ => pg_name (i := 2) sc_least_alike.nd rfl (Or.inl rfl)) (fun _ _ _ _ _ => pts_nil) (fun _ _ _ _ _ => pe_rdy R_changed (hr.mono (by decide)) rfl (pa_cons (pv 0) (pa_cons (pv 1) (pa_cons (pv 2) pa_nil))))) pa_nil))), ?_⟩
    have hlen : (chg n n).length ≤ 49000 := Nat.le_trans (chg_len n n) (Nat.le_trans (pow_bound hn hn) (by decide))
    refine s_ret (ev_minN (K := K) (ns := (chg n n).map fun p => Sv84.moved n p t) (el_is (el_lcM (K := K) (j := 2) (fun i => vN (Sv84.moved n ((chg n n).getD i []) t)) (em_rdy (ea_cons (ev_var rfl) ea_nil) fun _ _ => ⟨n, hn, rfl, rfl⟩) hlen (fun _ => rfl)
      (fun i l a H1 _ hl ha => ?_)) (given_rows n t (chg n n))) (by rw [List.length_map]; exact chg_some n hn) (fun k h1 h2 => alike_min hn h1 h2)) q
    have hm := chg_row n n l (List.mem_of_getElem? hl)
    rw [List.getD_eq_getElem?_getD, hl]
    exact ev_rdy (ea_cons (ev_var rfl) (ea_cons (ev_var rfl) (ea_cons (ev_var rfl) ea_nil))) fun H2 e2 => ⟨n, t, a, l, hn, hm.1, hm.2, rfl, sq_of (e2 _ _ ha), rfl⟩
/-! ### is_size -/
abbrev s_is_size : Stmt := topS 11
theorem sc_is_size : FnScope ["n"] ["n"] (defScope s_is_size) := ⟨rfl, rfl, rfl, by decide +kernel, rfl, by decide +kernel, by decide +kernel⟩
def r_is_size (_ : Hp) (vs : List V) (z : V) : Prop := ∃ n : Int, vs = [.int n] ∧ z = .bl (Sv84.sizeOk n)
theorem ok_is_size {f : Addr} {fd : FuncData} (F : Fun K "is_size" "is_size" s_is_size f fd) (c_MOST_ELEMENTS : ∃ t, mg "MOST_ELEMENTS" = some (.int 6 t)) : FnOk P w K mg base CX0 1 f fd ["n"] (pV r_is_size) := by
  refine F.ok sc_is_size (fun vs H Q E h => ?_) (fun cdv A outer s H vs Q E hr h => ?_)
  · obtain ⟨z, ⟨n, rfl, rfl⟩, _⟩ := h
    rfl
  · obtain ⟨z, ⟨n, rfl, rfl⟩, q⟩ := h
    obtain ⟨t1, m1⟩ := c_MOST_ELEMENTS
    refine ⟨_, pss_one (ps_ret (pe_chain op_le op_le pe_int (pv 0) (pe_glob (v := .int 6) rfl m1 ⟨_, rfl⟩))), ?_⟩
    exact s_ret (ev_chain ev_c (ev_var rfl) rv_I0 ev_c rv_I0) q
/-! ### is_table -/
abbrev s_is_table : Stmt := topS 12
theorem sc_is_table : FnScope ["n", "t"] ["n", "t"] (defScope s_is_table) := ⟨rfl, rfl, rfl, by decide +kernel, rfl, by decide +kernel, by decide +kernel⟩
def r_is_table (_ : Hp) (vs : List V) (z : V) : Prop := ∃ (n : Nat) (t : Int), n ≤ 6 ∧ vs = [vN n, .int t] ∧ z = .bl (decide (t < ((2 ^ 2 ^ n : Nat) : Int)))
theorem ok_is_table {f : Addr} {fd : FuncData} (F : Fun K "is_table" "is_table" s_is_table f fd) (R_size_of : Rdy P w K mg base "size_of" 1 ["n"] (pV r_size_of)) : FnOk P w K mg base CX0 2 f fd ["n", "t"] (pV r_is_table) := by
  refine F.ok sc_is_table (fun vs H Q E h => ?_) (fun cdv A outer s H vs Q E hr h => ?_)
  · obtain ⟨z, ⟨n, t, hn, rfl, rfl⟩, _⟩ := h
    rfl
  · obtain ⟨z, ⟨n, t, hn, rfl, rfl⟩, q⟩ := h
    have hr1 : Room 1 _ := hr.mono (by decide)
    have hp := pow_le_64 hn
    refine ⟨_, pss_one (ps_ret (pe_cmpR op_lt (pv 1) (pe_op op_shl pe_int (pe_rdy R_size_of hr1 rfl (pa_cons (pv 0) pa_nil))) (nomark _))), ?_⟩
    refine s_ret (ev_op (ev_var rfl) (ev_is (ev_op ev_c (ev_rdy (ea_cons (ev_var rfl) ea_nil) fun H1 _ => ⟨n, by omega, rfl, rfl⟩) (rv_I (cpow_nat (a := 1) (by omega) (by decide)))) ((shl_nat 1 (2 ^ n)).trans (by rw [Nat.one_mul]; rfl))) rv_I0) q
/-! ### refusal -/
abbrev s_refusal : Stmt := topS 13
theorem sc_refusal : FnScope ["n", "t"] ["n", "t"] (defScope s_refusal) := ⟨rfl, rfl, rfl, by decide +kernel, rfl, by decide +kernel, by decide +kernel⟩
def r_refusal (_ : Hp) (vs : List V) (z : V) : Prop := ∃ n t : Int, vs = [.int n, .int t] ∧ z = .int (refus n t)
theorem ok_refusal {f : Addr} {fd : FuncData} (F : Fun K "refusal" "refusal" s_refusal f fd) (R_is_size : Rdy P w K mg base "is_size" 1 ["n"] (pV r_is_size)) (R_is_table : Rdy P w K mg base "is_table" 2 ["n", "t"] (pV r_is_table)) (c_RANGE : ∃ t, mg "RANGE" = some (.int (-2) t)) (c_NO_TABLE : ∃ t, mg "NO_TABLE" = some (.int (-3) t)) : FnOk P w K mg base CX0 3 f fd ["n", "t"] (pV r_refusal) := by
  refine F.ok sc_refusal (fun vs H Q E h => ?_) (fun cdv A outer s H vs Q E hr h => ?_)
  · obtain ⟨z, ⟨n, t, rfl, rfl⟩, _⟩ := h
    rfl
  · obtain ⟨z, ⟨n, t, rfl, rfl⟩, q⟩ := h
    obtain ⟨t1, m1⟩ := c_RANGE
    obtain ⟨t2, m2⟩ := c_NO_TABLE
    refine ⟨_, pss_cons (ps_if (pt_not (pt_val (pe_rdy R_is_size (hr.mono (by decide)) rfl (pa_cons (pv 0) pa_nil)))) (pss_one (ps_ret (pe_glob (v := .int (-2)) rfl m1 ⟨_, rfl⟩))) pss_nil)
      (pss_one (ps_ret (pe_ifExp (pt_val (pe_rdy R_is_table (hr.mono (by decide)) rfl (pa_cons (pv 0) (pa_cons (pv 1) pa_nil)))) pe_int (pe_glob (v := .int (-3)) rfl m2 ⟨_, rfl⟩)))), ?_⟩
    refine q_when (b := !Sv84.sizeOk n) (et_not (et_B (ev_rdy (ea_cons (ev_var rfl) ea_nil) fun H1 _ => ⟨n, rfl, rfl⟩))) (fun hb H1 e1 => ?_) (fun hb H1 e1 => ?_)
    · have h0 : Sv84.sizeOk n = false := by simpa using hb
      refine s_ret ev_c fun H2 e2 => ?_
      have := q H2 (e1.trans e2)
      unfold refus at this
      rw [h0] at this
      exact this
    · have h0 : Sv84.sizeOk n = true := by simpa using hb
      obtain ⟨m, rfl, hm⟩ := size_nat h0
      refine s_ret (v := .int (refus m t)) (ev_if (b := decide (t < ((2 ^ 2 ^ m : Nat) : Int))) (et_B (ev_rdy (ea_cons (ev_var rfl) (ea_cons (ev_var rfl) ea_nil)) fun H1 _ => ⟨m, t, hm, rfl, rfl⟩)) (fun hb2 => ev_is ev_c ?_) (fun hb2 => ev_is ev_c ?_)) fun H2 e2 => q H2 (e1.trans e2)
      · unfold refus
        rw [if_pos h0, Int.toNat_natCast, if_pos (of_decide_eq_true hb2)]
      · unfold refus
        rw [if_pos h0, Int.toNat_natCast, if_neg (of_decide_eq_false hb2)]
/-! ### alike -/
abbrev s_alike : Stmt := topS 14
theorem sc_alike : FnScope ["n", "t", "refused"] ["n", "t"] (defScope s_alike) := ⟨rfl, rfl, rfl, by decide +kernel, rfl, by decide +kernel, by decide +kernel⟩
def t_alike (_ : Hp) (vs : List V) (out : List Int) : Prop := ∃ n t : Int, 0 ≤ t ∧ vs = [.int n, .int t] ∧ out = PySv84.alike n t
theorem alike_is {n t : Int} (ht : 0 ≤ t) : PySv84.alike n t = if refus n t < 0 then [refus n t] else [0, ((Sv84Neutral.alikeOf n.toNat t.toNat : Nat) : Int)] := on_refus (n := n) ht fun _ => [0, ((Sv84Neutral.alikeOf n.toNat t.toNat : Nat) : Int)]
theorem ok_alike {f : Addr} {fd : FuncData} (F : Fun K "alike" "alike" s_alike f fd) (R_refusal : Rdy P w K mg base "refusal" 3 ["n", "t"] (pV r_refusal)) (R_least_alike : Rdy P w K mg base "least_alike" 3 ["n", "t"] (pV r_least_alike)) : FnOk P w K mg base CX0 4 f fd ["n", "t"] (pT t_alike) := by
  refine F.ok sc_alike (fun vs H Q E h => ?_) (fun cdv A outer s H vs Q E hr h => ?_)
  · obtain ⟨out, ⟨n, t, ht, rfl, rfl⟩, _⟩ := h
    rfl
  · obtain ⟨out, ⟨n, t, ht, rfl, rfl⟩, q⟩ := h
    refine ⟨_, pss_cons (ps_set (i := 2) sc_alike.nd rfl (.inl rfl) (pe_rdy R_refusal (hr.mono (by decide)) rfl (pa_cons (pv 0) (pa_cons (pv 1) pa_nil))))
      (pss_one (ps_ret (pe_ifExp (pt_cmpR op_lt (pv 2) pe_int (nomark _)) (pe_lst (pa_cons (pv 2) pa_nil)) (pe_lst (pa_cons pe_int (pa_cons (pe_rdy R_least_alike (hr.mono (by decide)) rfl (pa_cons (pv 0) (pa_cons (pv 1) pa_nil))) pa_nil)))))), ?_⟩
    refine q_asg (v := .int (refus n t)) (ev_rdy (ea_cons (ev_var rfl) (ea_cons (ev_var rfl) ea_nil)) fun H1 _ => ⟨n, t, rfl, rfl⟩) fun H1 e1 => ?_
    refine s_retL (xs := (PySv84.alike n t).map V.int) (el_if (b := decide (refus n t < 0)) (et_test (ev_op (ev_var rfl) ev_c rv_I0)) (fun hb => ?_) (fun hb => ?_)) fun p H2 _ _ hp => q H2 p hp
    · rw [alike_is ht, if_pos (of_decide_eq_true hb)]
      exact el_lst (ea_cons (ev_var rfl) ea_nil) (by show 1 ≤ 100000; decide)
    · have hb := of_decide_eq_false hb
      rw [alike_is ht, if_neg hb]
      obtain ⟨m, u, rfl, hm, rfl, hu⟩ := refus_ok hb ht
      exact el_lst (ea_cons ev_c (ea_cons (ev_rdy (ea_cons (ev_var rfl) (ea_cons (ev_var rfl) ea_nil)) fun H1 _ => ⟨m, u, hm, rfl, rfl⟩) ea_nil)) (by show 2 ≤ 100000; decide)
end
theorem all_mk {P : Program} {w : World} {K : PySem.W.Frag} {h : Heap} {mg : Str → Option Value} {fa f_size_of f_bit f_has f_changed f_all_changes f_least_alike f_is_size f_is_table f_refusal f_alike : Addr} (X : K.In h) (G : h.Ns mainGlobals mg) (hfa : mg "alike" = some (.ref fa)) {od_size_of an_size_of : Option Addr} {sl_size_of : Array (Option Value)} {oc_size_of kV_size_of dc_size_of pm_size_of cd_size_of ct_size_of : Value} {od_bit an_bit : Option Addr} {sl_bit : Array (Option Value)} {oc_bit kV_bit dc_bit pm_bit cd_bit ct_bit : Value} {od_has an_has : Option Addr} {sl_has : Array (Option Value)} {oc_has kV_has dc_has pm_has cd_has ct_has : Value} {od_changed an_changed : Option Addr} {sl_changed : Array (Option Value)} {oc_changed kV_changed dc_changed pm_changed cd_changed ct_changed : Value} {od_all_changes an_all_changes : Option Addr} {sl_all_changes : Array (Option Value)} {oc_all_changes kV_all_changes dc_all_changes pm_all_changes cd_all_changes ct_all_changes : Value} {od_least_alike an_least_alike : Option Addr} {sl_least_alike : Array (Option Value)} {oc_least_alike kV_least_alike dc_least_alike pm_least_alike cd_least_alike ct_least_alike : Value} {od_is_size an_is_size : Option Addr} {sl_is_size : Array (Option Value)} {oc_is_size kV_is_size dc_is_size pm_is_size cd_is_size ct_is_size : Value} {od_is_table an_is_table : Option Addr} {sl_is_table : Array (Option Value)} {oc_is_table kV_is_table dc_is_table pm_is_table cd_is_table ct_is_table : Value} {od_refusal an_refusal : Option Addr} {sl_refusal : Array (Option Value)} {oc_refusal kV_refusal dc_refusal pm_refusal cd_refusal ct_refusal : Value} {od_alike an_alike : Option Addr} {sl_alike : Array (Option Value)} {oc_alike kV_alike dc_alike pm_alike cd_alike ct_alike : Value} {tk_MOST_ELEMENTS : Tok} {tk_RANGE : Tok} {tk_NO_TABLE : Tok}
    (a_size_of : PySem.W.nsIn K mainGlobals "size_of" = some (some (.ref f_size_of))) (l_size_of : K.lookup f_size_of = some ⟨oc_size_of, od_size_of, .func (PySem.W.fnOf "size_of" "size_of" (defArgs s_size_of) (defBody s_size_of) (defScope s_size_of) .none kV_size_of dc_size_of pm_size_of an_size_of cd_size_of ct_size_of), sl_size_of⟩) (c_size_of : PySem.W.codeIn K cd_size_of "size_of" = true) (k_size_of : PySem.W.keepIn K (.ref f_size_of) = true)
    (a_bit : PySem.W.nsIn K mainGlobals "bit" = some (some (.ref f_bit))) (l_bit : K.lookup f_bit = some ⟨oc_bit, od_bit, .func (PySem.W.fnOf "bit" "bit" (defArgs s_bit) (defBody s_bit) (defScope s_bit) .none kV_bit dc_bit pm_bit an_bit cd_bit ct_bit), sl_bit⟩) (c_bit : PySem.W.codeIn K cd_bit "bit" = true) (k_bit : PySem.W.keepIn K (.ref f_bit) = true)
    (a_has : PySem.W.nsIn K mainGlobals "has" = some (some (.ref f_has))) (l_has : K.lookup f_has = some ⟨oc_has, od_has, .func (PySem.W.fnOf "has" "has" (defArgs s_has) (defBody s_has) (defScope s_has) .none kV_has dc_has pm_has an_has cd_has ct_has), sl_has⟩) (c_has : PySem.W.codeIn K cd_has "has" = true) (k_has : PySem.W.keepIn K (.ref f_has) = true)
    (a_changed : PySem.W.nsIn K mainGlobals "changed" = some (some (.ref f_changed))) (l_changed : K.lookup f_changed = some ⟨oc_changed, od_changed, .func (PySem.W.fnOf "changed" "changed" (defArgs s_changed) (defBody s_changed) (defScope s_changed) .none kV_changed dc_changed pm_changed an_changed cd_changed ct_changed), sl_changed⟩) (c_changed : PySem.W.codeIn K cd_changed "changed" = true) (k_changed : PySem.W.keepIn K (.ref f_changed) = true)
    (a_all_changes : PySem.W.nsIn K mainGlobals "all_changes" = some (some (.ref f_all_changes))) (l_all_changes : K.lookup f_all_changes = some ⟨oc_all_changes, od_all_changes, .func (PySem.W.fnOf "all_changes" "all_changes" (defArgs s_all_changes) (defBody s_all_changes) (defScope s_all_changes) .none kV_all_changes dc_all_changes pm_all_changes an_all_changes cd_all_changes ct_all_changes), sl_all_changes⟩) (c_all_changes : PySem.W.codeIn K cd_all_changes "all_changes" = true) (k_all_changes : PySem.W.keepIn K (.ref f_all_changes) = true)
    (a_least_alike : PySem.W.nsIn K mainGlobals "least_alike" = some (some (.ref f_least_alike))) (l_least_alike : K.lookup f_least_alike = some ⟨oc_least_alike, od_least_alike, .func (PySem.W.fnOf "least_alike" "least_alike" (defArgs s_least_alike) (defBody s_least_alike) (defScope s_least_alike) .none kV_least_alike dc_least_alike pm_least_alike an_least_alike cd_least_alike ct_least_alike), sl_least_alike⟩) (c_least_alike : PySem.W.codeIn K cd_least_alike "least_alike" = true) (k_least_alike : PySem.W.keepIn K (.ref f_least_alike) = true)
    (a_is_size : PySem.W.nsIn K mainGlobals "is_size" = some (some (.ref f_is_size))) (l_is_size : K.lookup f_is_size = some ⟨oc_is_size, od_is_size, .func (PySem.W.fnOf "is_size" "is_size" (defArgs s_is_size) (defBody s_is_size) (defScope s_is_size) .none kV_is_size dc_is_size pm_is_size an_is_size cd_is_size ct_is_size), sl_is_size⟩) (c_is_size : PySem.W.codeIn K cd_is_size "is_size" = true) (k_is_size : PySem.W.keepIn K (.ref f_is_size) = true)
    (a_is_table : PySem.W.nsIn K mainGlobals "is_table" = some (some (.ref f_is_table))) (l_is_table : K.lookup f_is_table = some ⟨oc_is_table, od_is_table, .func (PySem.W.fnOf "is_table" "is_table" (defArgs s_is_table) (defBody s_is_table) (defScope s_is_table) .none kV_is_table dc_is_table pm_is_table an_is_table cd_is_table ct_is_table), sl_is_table⟩) (c_is_table : PySem.W.codeIn K cd_is_table "is_table" = true) (k_is_table : PySem.W.keepIn K (.ref f_is_table) = true)
    (a_refusal : PySem.W.nsIn K mainGlobals "refusal" = some (some (.ref f_refusal))) (l_refusal : K.lookup f_refusal = some ⟨oc_refusal, od_refusal, .func (PySem.W.fnOf "refusal" "refusal" (defArgs s_refusal) (defBody s_refusal) (defScope s_refusal) .none kV_refusal dc_refusal pm_refusal an_refusal cd_refusal ct_refusal), sl_refusal⟩) (c_refusal : PySem.W.codeIn K cd_refusal "refusal" = true) (k_refusal : PySem.W.keepIn K (.ref f_refusal) = true)
    (a_alike : PySem.W.nsIn K mainGlobals "alike" = some (some (.ref f_alike))) (l_alike : K.lookup f_alike = some ⟨oc_alike, od_alike, .func (PySem.W.fnOf "alike" "alike" (defArgs s_alike) (defBody s_alike) (defScope s_alike) .none kV_alike dc_alike pm_alike an_alike cd_alike ct_alike), sl_alike⟩) (c_alike : PySem.W.codeIn K cd_alike "alike" = true) (k_alike : PySem.W.keepIn K (.ref f_alike) = true)
    (z_range : PySem.W.nsIn K mainGlobals "range" = some none)
    (z_sum : PySem.W.nsIn K mainGlobals "sum" = some none)
    (z_min : PySem.W.nsIn K mainGlobals "min" = some none)
    (g_MOST_ELEMENTS : PySem.W.nsIn K mainGlobals "MOST_ELEMENTS" = some (some (.int 6 tk_MOST_ELEMENTS)))
    (g_RANGE : PySem.W.nsIn K mainGlobals "RANGE" = some (some (.int (-2) tk_RANGE)))
    (g_NO_TABLE : PySem.W.nsIn K mainGlobals "NO_TABLE" = some (some (.int (-3) tk_NO_TABLE))) :
    ∃ fd : FuncData, (∀ (s : Shared) (us : List Value), us.length = (["n", "t"] : List Str).length → BindsTo s fd ⟨us, []⟩ ((["n", "t"] : List Str).zip us)) ∧ ∀ base : Heap, K.In base → base.Ns mainGlobals mg → FnOk P w K mg base CX0 4 fa fd ["n", "t"] (pT t_alike) := by
  have e := hfa.symm.trans (PySem.W.mg_of X G a_alike)
  cases e
  have F_size_of := fun_mk (st := s_size_of) l_size_of c_size_of k_size_of
  have F_bit := fun_mk (st := s_bit) l_bit c_bit k_bit
  have F_has := fun_mk (st := s_has) l_has c_has k_has
  have F_changed := fun_mk (st := s_changed) l_changed c_changed k_changed
  have F_all_changes := fun_mk (st := s_all_changes) l_all_changes c_all_changes k_all_changes
  have F_least_alike := fun_mk (st := s_least_alike) l_least_alike c_least_alike k_least_alike
  have F_is_size := fun_mk (st := s_is_size) l_is_size c_is_size k_is_size
  have F_is_table := fun_mk (st := s_is_table) l_is_table c_is_table k_is_table
  have F_refusal := fun_mk (st := s_refusal) l_refusal c_refusal k_refusal
  have F_alike := fun_mk (st := s_alike) l_alike c_alike k_alike
  have b_size_of := F_size_of.binds (ps := ["n"]) fun _ _ _ _ _ _ us hl => match us, hl with | [_], _ => rfl
  have b_bit := F_bit.binds (ps := ["t", "x"]) fun _ _ _ _ _ _ us hl => match us, hl with | [_, _], _ => rfl
  have b_has := F_has.binds (ps := ["x", "element"]) fun _ _ _ _ _ _ us hl => match us, hl with | [_, _], _ => rfl
  have b_changed := F_changed.binds (ps := ["n", "t", "places"]) fun _ _ _ _ _ _ us hl => match us, hl with | [_, _, _], _ => rfl
  have b_all_changes := F_all_changes.binds (ps := ["n"]) fun _ _ _ _ _ _ us hl => match us, hl with | [_], _ => rfl
  have b_least_alike := F_least_alike.binds (ps := ["n", "t"]) fun _ _ _ _ _ _ us hl => match us, hl with | [_, _], _ => rfl
  have b_is_size := F_is_size.binds (ps := ["n"]) fun _ _ _ _ _ _ us hl => match us, hl with | [_], _ => rfl
  have b_is_table := F_is_table.binds (ps := ["n", "t"]) fun _ _ _ _ _ _ us hl => match us, hl with | [_, _], _ => rfl
  have b_refusal := F_refusal.binds (ps := ["n", "t"]) fun _ _ _ _ _ _ us hl => match us, hl with | [_, _], _ => rfl
  refine ⟨PySem.W.fnOf "alike" "alike" (defArgs s_alike) (defBody s_alike) (defScope s_alike) .none kV_alike dc_alike pm_alike an_alike cd_alike ct_alike, fun s us hu => match us, hu with | [_, _], _ => .of_eq rfl, fun base _ _ => ?_⟩
  have R_size_of : Rdy P w K mg base "size_of" 1 ["n"] (pV r_size_of) := ⟨_, _, PySem.W.mg_of X G a_size_of, k_size_of, b_size_of, ok_size_of F_size_of⟩
  have R_bit : Rdy P w K mg base "bit" 1 ["t", "x"] (pV r_bit) := ⟨_, _, PySem.W.mg_of X G a_bit, k_bit, b_bit, ok_bit F_bit⟩
  have R_has : Rdy P w K mg base "has" 1 ["x", "element"] (pV r_has) := ⟨_, _, PySem.W.mg_of X G a_has, k_has, b_has, ok_has F_has⟩
  have R_changed : Rdy P w K mg base "changed" 2 ["n", "t", "places"] (pV (r_changed K)) := ⟨_, _, PySem.W.mg_of X G a_changed, k_changed, b_changed, ok_changed F_changed R_size_of R_bit R_has (PySem.W.mg_none_of X G z_range) (PySem.W.mg_none_of X G z_sum)⟩
  have R_all_changes : Rdy P w K mg base "all_changes" 1 ["n"] (pM r_all_changes) := ⟨_, _, PySem.W.mg_of X G a_all_changes, k_all_changes, b_all_changes, ok_all_changes F_all_changes (PySem.W.mg_none_of X G z_range)⟩
  have R_least_alike : Rdy P w K mg base "least_alike" 3 ["n", "t"] (pV r_least_alike) := ⟨_, _, PySem.W.mg_of X G a_least_alike, k_least_alike, b_least_alike, ok_least_alike F_least_alike R_changed R_all_changes (PySem.W.mg_none_of X G z_min)⟩
  have R_is_size : Rdy P w K mg base "is_size" 1 ["n"] (pV r_is_size) := ⟨_, _, PySem.W.mg_of X G a_is_size, k_is_size, b_is_size, ok_is_size F_is_size ⟨_, PySem.W.mg_of X G g_MOST_ELEMENTS⟩⟩
  have R_is_table : Rdy P w K mg base "is_table" 2 ["n", "t"] (pV r_is_table) := ⟨_, _, PySem.W.mg_of X G a_is_table, k_is_table, b_is_table, ok_is_table F_is_table R_size_of⟩
  have R_refusal : Rdy P w K mg base "refusal" 3 ["n", "t"] (pV r_refusal) := ⟨_, _, PySem.W.mg_of X G a_refusal, k_refusal, b_refusal, ok_refusal F_refusal R_is_size R_is_table ⟨_, PySem.W.mg_of X G g_RANGE⟩ ⟨_, PySem.W.mg_of X G g_NO_TABLE⟩⟩
  exact ok_alike F_alike R_refusal R_least_alike
end RT
open PySem PySem.W PyProof.Rows
set_option maxRecDepth 100000 in
set_option maxHeartbeats 8000000 in
theorem PySem.Challenge.cw_risingtables_s06_alike_holds : PySem.Challenge.rw_risingtables_s06_alike.Holds := by
  w_on; k_headS; (case hw => exact ⟨[.int 0, .int 0], by decide +kernel, by decide +kernel⟩)
  k_fillS
  refine L2.walk_specK (r := PySem.Challenge.rw_risingtables_s06_alike) (k := 4) (CX := L2.CX0) (ps := ["n", "t"]) (sp := fun K => RT.pT RT.t_alike) (by decide +kernel) rfl rfl ⟨rfl, by decide, by decide⟩ (fun w h Y => PySem.W.kIn_of Y) ?F ?S (fun _ _ _ _ z => z)
  case F =>
    intro w mg fa h Y KX G hmg
    refine' RT.all_mk KX G hmg ?a_size_of ?l_size_of ?c_size_of ?k_size_of ?a_bit ?l_bit ?c_bit ?k_bit ?a_has ?l_has ?c_has ?k_has ?a_changed ?l_changed ?c_changed ?k_changed ?a_all_changes ?l_all_changes ?c_all_changes ?k_all_changes ?a_least_alike ?l_least_alike ?c_least_alike ?k_least_alike ?a_is_size ?l_is_size ?c_is_size ?k_is_size ?a_is_table ?l_is_table ?c_is_table ?k_is_table ?a_refusal ?l_refusal ?c_refusal ?k_refusal ?a_alike ?l_alike ?c_alike ?k_alike ?z_range ?z_sum ?z_min ?g_MOST_ELEMENTS ?g_RANGE ?g_NO_TABLE
    (case a_size_of => k_is); (case l_size_of => k_is); (case c_size_of => k_is); (case k_size_of => k_is); (case a_bit => k_is); (case l_bit => k_is); (case c_bit => k_is); (case k_bit => k_is); (case a_has => k_is); (case l_has => k_is); (case c_has => k_is); (case k_has => k_is); (case a_changed => k_is); (case l_changed => k_is); (case c_changed => k_is); (case k_changed => k_is); (case a_all_changes => k_is); (case l_all_changes => k_is); (case c_all_changes => k_is); (case k_all_changes => k_is); (case a_least_alike => k_is); (case l_least_alike => k_is); (case c_least_alike => k_is); (case k_least_alike => k_is); (case a_is_size => k_is); (case l_is_size => k_is); (case c_is_size => k_is); (case k_is_size => k_is); (case a_is_table => k_is); (case l_is_table => k_is); (case c_is_table => k_is); (case k_is_table => k_is); (case a_refusal => k_is); (case l_refusal => k_is); (case c_refusal => k_is); (case k_refusal => k_is); (case a_alike => k_is); (case l_alike => k_is); (case c_alike => k_is); (case k_alike => k_is); (case z_range => k_is); (case z_sum => k_is); (case z_min => k_is); (case g_MOST_ELEMENTS => k_is); (case g_RANGE => k_is); (case g_NO_TABLE => k_is)
  case S =>
    intro K H xs a hO hwi hask hx
    cases hx with
    | cons h1 h2 =>
      cases h2 with
      | cons h2 h3 =>
        cases h3
        cases h1
        cases h2
        have q : (Sv84Neutral.int32 a.1 && Sv84Neutral.word a.2.1) = true := hask
        rw [Bool.and_eq_true] at q
        have q2 := q.2
        unfold Sv84Neutral.word at q2
        rw [Bool.and_eq_true, decide_eq_true_eq] at q2
        exact ⟨_, ⟨a.1, a.2.1, q2.1, rfl, rfl⟩, fun H' p hp => .lst (L2.SqL.of hp) (L2.dw_ints _)⟩
#print axioms PySem.Challenge.cw_risingtables_s06_alike_holds
