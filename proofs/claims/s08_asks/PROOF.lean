import PyProof.Rows.All
import Wide.All
import OpenK.AllK
import Wide.FinOn
import PyProof.EqAt
import PyProof.EqKinds
import PyProof.TupleCall
import Open.SpecLaws
import KE.OsGo
import HandS.ForSpec
import HandS.ForMost
import HandS.Evl
import PySem.Challenge.RW_risingtables_s08_asks
set_option Elab.async false
set_option linter.all false
set_option maxRecDepth 100000
set_option maxHeartbeats 4000000
namespace RT
open PySem PySem.Spec PyProof.Rows L2 Evl

/-! ### values, promises, calls -/
def vN (k : Nat) : V := .int (k : Int)
/-- a def that stands at its name and keeps its promise -/
structure Rdy (P : Program) (w : World) (K : PySem.W.Frag) (mg : Str → Option Value) (base : Heap) (x : Str) (k : Nat) (ps : List Str) (sp : Sp) : Prop where
  ex : ∃ f fd, mg x = some (.ref f) ∧ PySem.W.keepIn K (.ref f) = true ∧ Binds K fd ps [] ∧ FnOk P w K mg base CX0 k f fd ps sp
theorem pe_rdy {X : Cx} {k : Nat} {x : Str} {ps : List Str} {sp : Sp} {p pos : Pos} {e : Expr} {es : List Expr} {t : TA} (R : Rdy X.prog X.w X.K X.mg X.base x k ps sp) (hr : Room k X.A) (hg : Gl X x) (ha : PA X (e :: es) t)
    (hdb : (x == ("__debug__" : Str)) = false := by decide) (he : starEach (e :: es) X.env = (false, eval e X.env) :: starEach es X.env := by rfl) (hpl : (backTo pos (starEach es X.env)).any (·.1) = false := by rfl) :
    PE X (.Call (.Name x p) (e :: es) [] pos) (tCall sp [] E0 t) := by
  obtain ⟨f, fd, hm, hk, hb, F⟩ := R.ex
  exact pe_call F hr hg hm hk hb .nil pass0 ha hdb he hpl
/-- hands back a value -/
def pV (R : Hp → List V → V → Prop) : Sp := fun vs H Q _ => ∃ z, R H vs z ∧ ∀ H', Ex H H' → Q z H'
/-- hands back a new list -/
def pL (R : Hp → List V → List V → Prop) : Sp := fun vs H Q _ => ∃ xs, R H vs xs ∧ ∀ p H', H p = none → Ex H H' → H' p = some (.lst xs) → Q (.ref p) H'
section
variable {K : PySem.W.Frag} {σ : L2.St} {H : Hp} {ta : TA} {E : XK}
theorem ev_rdy {R : Hp → List V → V → Prop} {vs : List V} {z : V} (h : EvA ta σ H vs) (hR : ∀ H1, Ex H H1 → R H1 vs z) : Ev (tCall (pV R) [] E ta) σ H z :=
  ev_call h fun H1 e Q q E => ⟨z, by rw [List.append_nil]; exact hR H1 e, q⟩
theorem el_rdy {R : Hp → List V → List V → Prop} {vs xs : List V} (h : EvA ta σ H vs) (hR : ∀ H1, Ex H H1 → R H1 vs xs) : EvL (tCall (pL R) [] E ta) σ H xs :=
  el_call h fun H1 e Q q E => ⟨xs, by rw [List.append_nil]; exact hR H1 e, q⟩
end
theorem el_is {te : TE} {σ : L2.St} {H : Hp} {xs ys : List V} (h : EvL te σ H xs) (e : xs = ys) : EvL te σ H ys := by
  rw [← e]
  exact h

/-! ### comprehensions over lists of numbers -/
theorem range_getD {α : Type} (d : α) : ∀ l : List α, (List.range l.length).map (fun i => l.getD i d) = l := by
  intro l
  apply List.ext_getElem?
  intro i
  by_cases h : i < l.length
  · simp [h]
  · simp [h, Nat.not_lt.mp h]
theorem given_nats (ys : List Nat) (p : Nat → Bool) (q : Nat → V) (n : Nat) (hn : n = ys.length) : given n (fun i => p (ys.getD i 0)) (fun i => q (ys.getD i 0)) = (ys.filter p).map q := by
  subst hn
  unfold given
  have e := range_getD 0 ys
  have e2 : ((List.range ys.length).map (fun i => ys.getD i 0)).filter p = ys.filter p := by rw [e]
  rw [List.filter_map] at e2
  rw [← e2, List.map_map]
  rfl
theorem getD_of {ys : List Nat} {i : Nat} {x : V} (h : (ys.map vN)[i]? = some x) : x = vN (ys.getD i 0) := by
  rw [List.getElem?_map] at h
  cases e : ys[i]? with
  | none => rw [e] at h; cases h
  | some y =>
    rw [e] at h
    rw [List.getD_eq_getElem?_getD, e]
    exact (Option.some.inj h).symm
theorem len_filter_le {ys : List Nat} {p : Nat → Bool} : (ys.filter p).length ≤ ys.length := List.length_filter_le p ys

/-! ### lists compared with the empty list -/
def isNil {α : Type} : List α → Bool
  | [] => true
  | _ :: _ => false
theorem isNil_map {α β : Type} (f : α → β) (l : List α) : isNil (l.map f) = isNil l := by cases l <;> rfl
theorem isNil_filter {α : Type} (p : α → Bool) (l : List α) : isNil (l.filter p) = l.all (fun x => !p x) := by
  induction l with
  | nil => rfl
  | cons a l ih =>
    rw [List.filter_cons, List.all_cons]
    cases h : p a with
    | true => rfl
    | false => exact ih
theorem lay_ints : ∀ ns : List Int, PyData.canLayAll0 (ns.map PyData.int) = true
  | [] => by simp [PyData.canLayAll0]
  | n :: r => by
    rw [List.map_cons, PyData.canLayAll0, lay_ints r, PyData.canLay0] <;> rfl
theorem depth_ints : ∀ ns : List Int, PyData.depthAll (ns.map PyData.int) ≤ 1
  | [] => by simp [PyData.depthAll]
  | n :: r => by
    have ih := depth_ints r
    rw [List.map_cons, PyData.depthAll, PyData.depth]
    omega
theorem shaped_ints (ns : List Int) : SeqAt.shaped (.list (ns.map PyData.int)) = true := by
  unfold SeqAt.shaped
  rw [Bool.and_eq_true]
  refine ⟨?_, decide_eq_true ?_⟩
  · rw [PyData.canLay0]
    exact lay_ints ns
  · have := depth_ints ns
    rw [PyData.depth]
    omega
theorem dp_ints {K : PySem.W.Frag} {H : Hp} : ∀ ns : List Int, DpAll K H (ns.map V.int) (ns.map PyData.int)
  | [] => .nil
  | n :: r => .cons (.int n) (dp_ints r)
theorem eqv_nil (ns : List Int) : PyData.eqv (.list (ns.map PyData.int)) (.list []) = isNil ns := by
  cases ns with
  | nil => decide +kernel
  | cons n r =>
    rw [List.map_cons]
    simp [PyData.eqv, PyData.eqvAll, isNil]
section
variable {K : PySem.W.Frag} {σ : L2.St} {H : Hp} {ta tb : TE}
/-- [..] == [] -/
theorem ev_eqNil {ns : List Nat} (ha : EvL ta σ H (ns.map vN)) : Ev (tOp (rEqD K) ta (tLst tNil)) σ H (.bl (isNil ns)) :=
  ev_opLL ha (el_lst ea_nil (Nat.zero_le _)) fun p q H1 hp hq _ => fun H2 e2 Q k => by
    have hm : ns.map vN = (ns.map fun (k : Nat) => (k : Int)).map V.int := by rw [List.map_map]; rfl
    rw [hm] at hp
    refine ⟨_, .list [], .lst (ex_l e2 (sq_of hp)) (dp_ints _), .lst (ex_l e2 (sq_of hq)) .nil, shaped_ints _, shaped_ints [], ?_⟩
    rw [eqv_nil, isNil_map]
    exact k H2 (Ex.refl H2)
/-- [..] != [] -/
theorem ev_neNil {ns : List Nat} (ha : EvL ta σ H (ns.map vN)) : Ev (tOp (rNeD K) ta (tLst tNil)) σ H (.bl (!isNil ns)) :=
  ev_opLL ha (el_lst ea_nil (Nat.zero_le _)) fun p q H1 hp hq _ => fun H2 e2 Q k => by
    have hm : ns.map vN = (ns.map fun (k : Nat) => (k : Int)).map V.int := by rw [List.map_map]; rfl
    rw [hm] at hp
    refine ⟨_, .list [], .lst (ex_l e2 (sq_of hp)) (dp_ints _), .lst (ex_l e2 (sq_of hq)) .nil, shaped_ints _, shaped_ints [], ?_⟩
    rw [eqv_nil, isNil_map]
    exact k H2 (Ex.refl H2)
end

/-! ### numbers -/
def bt (t x : Nat) : Nat := t / 2 ^ x % 2
theorem bt_eq (t x : Nat) : bt t x = (t.testBit x).toNat := by
  unfold bt
  rw [Nat.testBit_eq_decide_div_mod_eq]
  have h := Nat.mod_two_eq_zero_or_one (t / 2 ^ x)
  rcases h with h | h <;> rw [h] <;> rfl
theorem bt_zero {t x : Nat} : decide (vN (bt t x) = V.int 0) = !t.testBit x := by
  rw [bt_eq]
  cases t.testBit x <;> decide
theorem bt_one {t x : Nat} : decide (vN (bt t x) = V.int 1) = t.testBit x := by
  rw [bt_eq]
  cases t.testBit x <;> decide
theorem shr_nat (t x : Nat) : V.int ((t : Int) / 2 ^ (x : Int).toNat % 2) = vN (bt t x) := by
  unfold vN bt
  rw [Int.toNat_natCast]
  norm_cast
theorem shl_nat (a x : Nat) : V.int ((a : Int) * 2 ^ (x : Int).toNat) = vN (a * 2 ^ x) := by
  unfold vN
  rw [Int.toNat_natCast]
  norm_cast
theorem pow_le_64 {n : Nat} (h : n ≤ 6) : 2 ^ n ≤ 64 := Nat.pow_le_pow_right (n := 2) (by decide) h
theorem cpow_nat {a x : Nat} (hx : x ≤ 1000) (ha : a < 2 ^ 64) : CPow (a : Int) (x : Int) := ⟨Int.natCast_nonneg _, by omega, by rw [Int.natAbs_natCast]; exact ha⟩

/-! ### the tables as sums -/
def tabTo (f : Nat → Bool) (i : Nat) : Nat := ((List.range i).map fun x => if f x = true then 2 ^ x else 0).sum
theorem tabTo_succ (f : Nat → Bool) (i : Nat) : tabTo f (i + 1) = tabTo f i + if f i = true then 2 ^ i else 0 := by
  unfold tabTo
  rw [List.range_succ, List.map_append, List.sum_append]
  simp
theorem table_tabTo (n : Nat) (f : Nat → Bool) : Sv84.table n f = tabTo f (2 ^ n) := rfl
end RT
namespace RT
open PySem PySem.Spec PyProof.Rows L2 Evl
section
variable {K : PySem.W.Frag} {σ : L2.St} {H : Hp} {ta tb tc te : TE} {t : TT}
theorem ev_chain {r r' : R2} {x y z : V} {a b : Bool} (ha : Ev ta σ H x) (hb : Ev tb σ H y) (hr : RV r x y H (.bl a)) (hc : Ev tc σ H z) (hr' : RV r' y z H (.bl b)) : Ev (tChain r r' ta tb tc) σ H (.bl (a && b)) := fun H1 e Q q =>
  ha H1 e _ fun H2 e2 => hb H2 (e.trans e2) _ fun H3 e3 => hr H3 ((e.trans e2).trans e3) _ fun H4 e4 => ⟨a, rfl, by
    cases a with
    | true =>
      show tc σ H4 fun w' H5 => r' y w' H5 Q
      exact hc H4 (((e.trans e2).trans e3).trans e4) _ fun H5 e5 => hr' H5 ((((e.trans e2).trans e3).trans e4).trans e5) Q fun H6 e6 => q H6 (((((e2.trans e3).trans e4).trans e5)).trans e6)
    | false =>
      show Q (.bl false) H4
      exact q H4 ((e2.trans e3).trans e4)⟩
theorem el_if {b : Bool} {xs : List V} (h : EvT t σ H b) (h1 : b = true → EvL ta σ H xs) (h2 : b = false → EvL tb σ H xs) : EvL (tIf t ta tb) σ H xs := fun H1 e Q q => h H1 e _ fun H2 e2 => by
  cases b with
  | true =>
    show ta σ H2 Q
    exact h1 rfl H2 (e.trans e2) Q fun p H3 hp e3 h3 => q p H3 (fresh_back e2 hp) (e2.trans e3) h3
  | false =>
    show tb σ H2 Q
    exact h2 rfl H2 (e.trans e2) Q fun p H3 hp e3 h3 => q p H3 (fresh_back e2 hp) (e2.trans e3) h3
end
/-- the asked def's own promise: a list that holds the answer -/
def pT (S : Hp → List V → List Int → Prop) : Sp := fun vs H Q _ => ∃ out, S H vs out ∧ ∀ H' p, H' p = some (.lst (out.map V.int)) → Q (.ref p) H'

/-! ### refusals -/
def refus (n t : Int) : Int := if Sv84.sizeOk n = true then (if t < ((2 ^ 2 ^ n.toNat : Nat) : Int) then 0 else -3) else -2
theorem size_nat {n : Int} (h : Sv84.sizeOk n = true) : ∃ m : Nat, n = (m : Int) ∧ m ≤ 6 := by
  unfold Sv84.sizeOk Sv84.between at h
  rw [Bool.and_eq_true, decide_eq_true_eq, decide_eq_true_eq] at h
  exact ⟨n.toNat, by omega, by omega⟩
theorem refus_ok {n t : Int} (h : ¬ refus n t < 0) (ht : 0 ≤ t) : ∃ m u : Nat, n = (m : Int) ∧ m ≤ 6 ∧ t = (u : Int) ∧ u < 2 ^ 2 ^ m := by
  unfold refus at h
  by_cases h1 : Sv84.sizeOk n = true
  · rw [if_pos h1] at h
    obtain ⟨m, rfl, hm⟩ := size_nat h1
    rw [Int.toNat_natCast] at h
    by_cases h2 : t < ((2 ^ 2 ^ m : Nat) : Int)
    · exact ⟨m, t.toNat, rfl, hm, by omega, by omega⟩
    · rw [if_neg h2] at h
      exact absurd (by decide) h
  · rw [if_neg h1] at h
    exact absurd (by decide) h
theorem on_refus {n t : Int} (ht : 0 ≤ t) (x : Unit → List Int) : Sv84Neutral.on (Sv84.sizeOk n) (Sv84.fits n.toNat t.toNat) x = if refus n t < 0 then [refus n t] else x () := by
  unfold Sv84Neutral.on refus Sv84.fits
  cases h1 : Sv84.sizeOk n with
  | false => rfl
  | true =>
    rw [if_neg (by decide), if_pos rfl]
    generalize (2 ^ 2 ^ n.toNat : Nat) = N
    by_cases h2 : t < (N : Int)
    · rw [if_pos h2, decide_eq_true (show t.toNat < N by omega), if_neg (by decide), if_neg (by decide)]
    · rw [if_neg h2, decide_eq_false (show ¬ t.toNat < N by omega), if_pos rfl, if_pos (by decide)]
end RT
namespace RT
open PySem PySem.Spec PyProof.Rows L2 Evl
/-! ### the neighbours of a set -/
def aboveN (n x : Nat) : List Nat := ((List.range n).filter fun e => !x.testBit e).map fun e => x + 2 ^ e
def belowN (n x : Nat) : List Nat := ((List.range n).filter fun e => x.testBit e).map fun e => x - 2 ^ e
theorem aboveN_len (n x : Nat) : (aboveN n x).length ≤ n := by
  unfold aboveN
  rw [List.length_map]
  have h := List.length_filter_le (fun e => !x.testBit e) (List.range n)
  rw [List.length_range] at h
  exact h
theorem belowN_len (n x : Nat) : (belowN n x).length ≤ n := by
  unfold belowN
  rw [List.length_map]
  have h := List.length_filter_le (fun e => x.testBit e) (List.range n)
  rw [List.length_range] at h
  exact h
theorem all_filter {α : Type} (p q : α → Bool) (l : List α) : (l.filter p).all q = l.all fun x => !p x || q x := by
  induction l with
  | nil => rfl
  | cons a l ih =>
    rw [List.filter_cons, List.all_cons]
    cases h : p a with
    | true => rw [if_pos rfl, List.all_cons, ih] <;> rfl
    | false => rw [if_neg (by decide), ih] <;> rfl
theorem all_map {α β : Type} (f : α → β) (q : β → Bool) (l : List α) : (l.map f).all q = l.all fun x => q (f x) := by
  induction l with
  | nil => rfl
  | cons a l ih => rw [List.map_cons, List.all_cons, List.all_cons, ih]
theorem all_or {α : Type} (b : Bool) (q : α → Bool) (l : List α) (h : b = false ∨ l ≠ [] ∨ True) : (l.all fun x => b || q x) = (b || l.all q) := by
  cases b with
  | true => simp
  | false => simp
theorem all_congr {α : Type} {p q : α → Bool} {l : List α} (h : ∀ x ∈ l, p x = q x) : l.all p = l.all q := by
  induction l with
  | nil => rfl
  | cons a l ih => rw [List.all_cons, List.all_cons, h a (List.mem_cons_self ..), ih fun x hx => h x (List.mem_cons_of_mem _ hx)]
def riseAt (n t x : Nat) : Bool := !t.testBit x || (aboveN n x).all fun y => t.testBit y
def isRis (n t : Nat) : Bool := (List.range (2 ^ n)).all fun x => riseAt n t x
theorem isRis_is (n t : Nat) : isRis n t = Sv84.rises n t := by
  unfold isRis Sv84.rises Sv84.sets Sv84.gives
  refine all_congr fun x _ => ?_
  unfold riseAt aboveN
  rw [all_map, all_filter, all_or _ _ _ (.inr (.inr trivial))]
  congr 1
  refine all_congr fun e _ => ?_
  rw [Bool.not_not]
def leastAt (n t x : Nat) : Bool := t.testBit x && (belowN n x).all fun y => !t.testBit y
def leastTo (n t i : Nat) : List Nat := (List.range i).filter fun x => leastAt n t x
theorem leastTo_is (n t : Nat) : leastTo n t (2 ^ n) = Sv84.least n t := by
  unfold leastTo Sv84.least Sv84.sets Sv84.gives
  refine List.filter_congr fun x _ => ?_
  unfold leastAt belowN
  rw [all_map, all_filter]
theorem leastTo_len (n t i : Nat) : (leastTo n t i).length ≤ i := by
  unfold leastTo
  have h := List.length_filter_le (fun x => leastAt n t x) (List.range i)
  rw [List.length_range] at h
  exact h
theorem leastTo_yes {n t i : Nat} (h : leastAt n t i = true) : leastTo n t (i + 1) = leastTo n t i ++ [i] := by
  unfold leastTo
  rw [List.range_succ, List.filter_append, List.filter_cons, if_pos h] <;> rfl
theorem leastTo_no {n t i : Nat} (h : leastAt n t i = false) : leastTo n t (i + 1) = leastTo n t i := by
  unfold leastTo
  rw [List.range_succ, List.filter_append, List.filter_cons, if_neg (by rw [h]; decide), List.filter_nil, List.append_nil]
theorem pow_le_of_bit {x e : Nat} (h : x.testBit e = true) : 2 ^ e ≤ x := by
  apply Nat.le_of_not_lt
  intro hlt
  rw [Nat.testBit_lt_two_pow hlt] at h
  cases h
theorem bitAnd_nat (a b : Nat) : Builtin.bitAnd (a : Int) (b : Int) = ((a &&& b : Nat) : Int) := by
  unfold Builtin.bitAnd
  rw [decide_eq_true (Int.natCast_nonneg a), decide_eq_true (Int.natCast_nonneg b)]
  rfl
theorem bitOr_nat (a b : Nat) : Builtin.bitOr (a : Int) (b : Int) = ((a ||| b : Nat) : Int) := by
  have h1 : ∀ c : Nat, Builtin.bitNot (Builtin.bitNot (c : Int)) = (c : Int) := fun c => by
    unfold Builtin.bitNot
    omega
  have h2 : ∀ c : Nat, ¬ 0 ≤ Builtin.bitNot (c : Int) := fun c => by
    unfold Builtin.bitNot
    omega
  unfold Builtin.bitOr Builtin.bitAnd
  rw [decide_eq_false (h2 a), decide_eq_false (h2 b)]
  show Builtin.bitNot (Builtin.bitNot (((Builtin.bitNot (Builtin.bitNot (a : Int))).toNat ||| (Builtin.bitNot (Builtin.bitNot (b : Int))).toNat : Nat) : Int)) = _
  rw [h1 a, h1 b, h1, Int.toNat_natCast, Int.toNat_natCast]
theorem vN_eq (a b : Nat) : decide (vN a = vN b) = (a == b) := by
  by_cases h : a = b
  · subst h
    rw [decide_eq_true rfl, beq_self_eq_true]
  · rw [decide_eq_false (show ¬ vN a = vN b from fun e => h (Int.ofNat_inj.mp (V.int.inj e)))]
    exact (beq_eq_false_iff_ne.mpr h).symm
theorem sum_cast : ∀ ns : List Nat, (ns.map fun (k : Nat) => (k : Int)).sum = ((ns.sum : Nat) : Int)
  | [] => rfl
  | n :: r => by
    rw [List.map_cons, List.sum_cons, List.sum_cons, sum_cast r, Int.natCast_add]
theorem map_vN (ns : List Nat) : ns.map vN = (ns.map fun (k : Nat) => (k : Int)).map V.int := by
  rw [List.map_map]
  rfl
section
variable {K : PySem.W.Frag} {σ : L2.St} {H : Hp} {ta tb tc te : TE} {t : TT}
theorem ev_sumN {ns : List Nat} (ha : EvL ta σ H (ns.map vN)) : Ev (tCB (rSum K) (tCons ta tNil)) σ H (vN ns.sum) := fun H1 e Q q =>
  ha H1 e _ fun p H2 _ e2 h2 => ⟨p, ns.map fun (k : Nat) => (k : Int), rfl, sq_of (by rw [h2, map_vN]), by rw [sum_cast]; exact q H2 e2⟩
/-- [..] + xs -/
theorem el_cat {b : Addr} {xs zs : List V} (ha : EvL ta σ H xs) (hb : Ev tb σ H (.ref b)) (hz : H b = some (.lst zs)) (hl : xs.length + zs.length ≤ 100000) : EvL (tOp rCat ta tb) σ H (xs ++ zs) := fun H1 e Q q =>
  ha H1 e _ fun p H2 hp e2 h2 => hb H2 (e.trans e2) _ fun H3 e3 => ⟨p, b, xs, zs, rfl, rfl, e3 p _ h2, ((e.trans e2).trans e3) b _ hz, sz_of hl, fun r hr => q r _ (fresh_back (e2.trans e3) hr) ((e2.trans e3).trans (Ex.new hr)) upd_same⟩
end
end RT
namespace RT
open PySem PySem.Spec PyProof.Rows L2 Evl
section
variable {X : Cx} {p pos : Pos} {e : Expr} {es : List Expr} {t : TA}
theorem pe_sum {K : PySem.W.Frag} (hK : X.K = K) (hc : X.calm = true) (hg : Gl X "sum") (hm : X.mg "sum" = none) (ha : PA X (e :: es) t)
    (he : starEach (e :: es) X.env = (false, eval e X.env) :: starEach es X.env := by rfl) (hpl : (backTo pos (starEach es X.env)).any (·.1) = false := by rfl) : PE X (.Call (.Name "sum" p) (e :: es) [] pos) (tCB (rSum K) t) := by
  subst hK
  exact pe_callB (cr_sum hc) hg hm (by decide +kernel) ha (by decide) (by decide) he hpl
theorem pe_min {K : PySem.W.Frag} (hK : X.K = K) (hc : X.calm = true) (hg : Gl X "min") (hm : X.mg "min" = none) (ha : PA X (e :: es) t)
    (he : starEach (e :: es) X.env = (false, eval e X.env) :: starEach es X.env := by rfl) (hpl : (backTo pos (starEach es X.env)).any (·.1) = false := by rfl) : PE X (.Call (.Name "min" p) (e :: es) [] pos) (tCB (rMin K) t) := by
  subst hK
  exact pe_callB (cr_min hc) hg hm (by decide +kernel) ha (by decide) (by decide) he hpl
end
end RT
namespace RT
open PySem PySem.Spec PyProof.Rows L2 Evl
/-! ### the text by places -/
def topS (i : Nat) : Stmt := PySem.Challenge.pw_risingtables_s08_asks.main.body.getD i (.Pass ⟨0, 0, 0, 0⟩)
section
variable {P : Program} {w : World} {K : PySem.W.Frag} {mg : Str → Option Value} {base : Heap}
/-! ### size_of -/
abbrev s_size_of : Stmt := topS 1
theorem sc_size_of : FnScope ["n"] ["n"] (defScope s_size_of) := ⟨rfl, rfl, rfl, by decide +kernel, rfl, by decide +kernel, by decide +kernel⟩
def r_size_of (_ : Hp) (vs : List V) (z : V) : Prop := ∃ n : Nat, n ≤ 64 ∧ vs = [vN n] ∧ z = vN (2 ^ n)
theorem ok_size_of {f : Addr} {fd : FuncData} (F : Fun K "size_of" "size_of" s_size_of f fd) : FnOk P w K mg base CX0 1 f fd ["n"] (pV r_size_of) := by
  refine F.ok sc_size_of (fun vs H Q E h => ?_) (fun cdv A outer s H vs Q E hr h => ?_)
  · obtain ⟨z, ⟨n, hn, rfl, rfl⟩, _⟩ := h
    rfl
  · obtain ⟨z, ⟨n, hn, rfl, rfl⟩, q⟩ := h
    refine ⟨_, pss_one (ps_ret (pe_op op_shl pe_int (pv 0))), ?_⟩
    refine s_ret (ev_is (ev_op ev_c (ev_var rfl) (rv_I (cpow_nat (a := 1) (by omega) (by decide)))) ?_) q
    exact (shl_nat 1 n).trans (by rw [Nat.one_mul])
/-! ### choices -/
abbrev s_choices : Stmt := topS 3
theorem sc_choices : FnScope ["n", "k", "x", "element"] ["n", "k"] (defScope s_choices) := ⟨rfl, rfl, rfl, by decide +kernel, rfl, by decide +kernel, by decide +kernel⟩
def popc (n x : Nat) : Nat := ((List.range n).map (bt x)).sum
def choi (n k : Nat) : Nat := ((List.range (2 ^ n)).filter fun x => popc n x == k).length
def choicesS : Scope := { kind := .function, names := [(".0", .local), ("x", .cell), ("sum", .globalImplicit), ("range", .globalImplicit), ("k", .free), ("n", .free)], isGenerator := false, isCoroutine := false }
def r_choices (_ : Hp) (vs : List V) (z : V) : Prop := ∃ n k : Nat, n ≤ 6 ∧ vs = [vN n, vN k] ∧ z = vN (choi n k)
theorem popc_is (n x : Nat) : given n (fun _ => true) (fun e => vN (bt x e)) = ((List.range n).map (bt x)).map vN := by
  unfold given
  rw [List.filter_eq_self.mpr (fun _ _ => rfl), List.map_map]
  rfl
theorem ok_choices {f : Addr} {fd : FuncData} (F : Fun K "choices" "choices" s_choices f fd) (R_size_of : Rdy P w K mg base "size_of" 1 ["n"] (pV r_size_of)) (z_range : mg "range" = none) (z_len : mg "len" = none) (z_sum : mg "sum" = none) : FnOk P w K mg base CX0 2 f fd ["n", "k"] (pV r_choices) := by
  refine F.ok sc_choices (fun vs H Q E h => ?_) (fun cdv A outer s H vs Q E hr h => ?_)
  · obtain ⟨z, ⟨n, k, hn, rfl, rfl⟩, _⟩ := h
    rfl
  · obtain ⟨z, ⟨n, k, hn, rfl, rfl⟩, q⟩ := h
    have hp := pow_le_64 hn
    have hq : 0 < 2 ^ n := Nat.two_pow_pos n
    refine ⟨_, pss_one (ps_ret (pe_callB call_len_seq (by rfl) z_len PySem.boot_len (pa_cons (pe_lc (own := [("x", 2)]) (g := gName 2) rfl sc_choices.nd (pi_range1 rfl z_range (pa_cons (pe_rdy R_size_of (hr.mono (by decide)) rfl (pa_cons (pv 0) pa_nil)) pa_nil)) (blkOk_by (N := ["n", "k", "x", "element"]) (sc := defScope s_choices) (by decide +kernel))
      (fun _ _ _ _ _ => pg_name (i := 2) sc_choices.nd rfl (Or.inr rfl))
      (fun _ _ _ _ _ => pts_one (pt_cmpR op_eq (pe_sum (K := K) rfl rfl rfl z_sum (pa_cons (pe_lc (own := [("element", 3)]) (g := gName 3) (tt := tYes) rfl sc_choices.nd (pi_range1 rfl z_range (pa_cons (pv 0) pa_nil)) (blkOk_by (N := ["n", "k", "x", "element"]) (sc := relS choicesS (defScope s_choices)) (by decide +kernel))
          (fun _ _ _ _ _ => pg_name (i := 3) sc_choices.nd rfl (Or.inl rfl)) (fun _ _ _ _ _ => pts_nil) (fun _ _ _ _ _ => pe_op op_mod (pe_op op_shr (pv 2) (pv 3)) pe_int)) pa_nil)) (pv 1) (nomark _)))
      (fun _ _ _ _ _ => pv 2)) pa_nil))), ?_⟩
    refine s_ret (ev_is (ev_lenN (K := K) (xs := ((List.range (2 ^ n)).filter fun x => popc n x == k).map vN) (el_is (el_lcR1 (j := 2) (n := ((2 ^ n : Nat) : Int)) (fun x => popc n x == k) vN (ea_cons (ev_rdy (ea_cons (ev_var rfl) ea_nil) fun _ _ => ⟨n, by omega, rfl, rfl⟩) ea_nil) ⟨by omega, by omega⟩ (fun _ => rfl)
      (fun i H1 _ hi => et_is (et_test (ev_op (ev_sumN (K := K) (ns := (List.range n).map (bt i)) (el_is (el_lcR1 (j := 3) (n := (n : Int)) (fun _ => true) (fun e => vN (bt i e)) (ea_cons (ev_var rfl) ea_nil) ⟨by omega, by omega⟩ (fun _ => rfl) (fun e H2 _ he => fun H3 _ Q k => k H3 (Ex.refl H3)) (fun e H2 _ he _ => ev_is (ev_op (ev_op (ev_var rfl) (ev_var rfl) (rv_I (Int.natCast_nonneg e))) ev_c (rv_I (by show (0 : Int) < 2; decide))) (shr_nat i e))) (popc_is n i))) (ev_var rfl) (rv_eq rfl))) (vN_eq _ _)) (fun i H1 _ hi hf => ev_var rfl)) ?_)) ?_) q
    · unfold given
      rw [Int.toNat_natCast]
    · rw [List.length_map]
      rfl
/-! ### questions -/
abbrev s_questions : Stmt := topS 4
theorem sc_questions : FnScope ["n"] ["n"] (defScope s_questions) := ⟨rfl, rfl, rfl, by decide +kernel, rfl, by decide +kernel, by decide +kernel⟩
def r_questions (_ : Hp) (vs : List V) (z : V) : Prop := ∃ n : Nat, n ≤ 6 ∧ vs = [vN n] ∧ z = vN (choi n (n / 2) + choi n (n / 2 + 1))
theorem ok_questions {f : Addr} {fd : FuncData} (F : Fun K "questions" "questions" s_questions f fd) (R_choices : Rdy P w K mg base "choices" 2 ["n", "k"] (pV r_choices)) : FnOk P w K mg base CX0 3 f fd ["n"] (pV r_questions) := by
  refine F.ok sc_questions (fun vs H Q E h => ?_) (fun cdv A outer s H vs Q E hr h => ?_)
  · obtain ⟨z, ⟨n, hn, rfl, rfl⟩, _⟩ := h
    rfl
  · obtain ⟨z, ⟨n, hn, rfl, rfl⟩, q⟩ := h
    refine ⟨_, pss_one (ps_ret (pe_op op_add (pe_rdy R_choices (hr.mono (by decide)) rfl (pa_cons (pv 0) (pa_cons (pe_op op_fdiv (pv 0) pe_int) pa_nil)))
      (pe_rdy R_choices (hr.mono (by decide)) rfl (pa_cons (pv 0) (pa_cons (pe_op op_add (pe_op op_fdiv (pv 0) pe_int) pe_int) pa_nil))))), ?_⟩
    exact s_ret (ev_op (x := vN (choi n (n / 2))) (y := vN (choi n (n / 2 + 1))) (ev_rdy (ea_cons (ev_var rfl) (ea_cons (ev_op (ev_var rfl) ev_c (rv_I ⟨by decide, by decide⟩)) ea_nil)) fun _ _ => ⟨n, n / 2, hn, rfl, rfl⟩)
      (ev_rdy (ea_cons (ev_var rfl) (ea_cons (ev_op (ev_op (ev_var rfl) ev_c (rv_I ⟨by decide, by decide⟩)) ev_c rv_I0) ea_nil)) fun _ _ => ⟨n, n / 2 + 1, hn, rfl, rfl⟩) rv_I0) q
/-! ### is_size -/
abbrev s_is_size : Stmt := topS 8
theorem sc_is_size : FnScope ["n"] ["n"] (defScope s_is_size) := ⟨rfl, rfl, rfl, by decide +kernel, rfl, by decide +kernel, by decide +kernel⟩
def r_is_size (_ : Hp) (vs : List V) (z : V) : Prop := ∃ n : Int, vs = [.int n] ∧ z = .bl (Sv84.sizeOk n)
theorem ok_is_size {f : Addr} {fd : FuncData} (F : Fun K "is_size" "is_size" s_is_size f fd) (c_MOST_ELEMENTS : ∃ t, mg "MOST_ELEMENTS" = some (.int 6 t)) : FnOk P w K mg base CX0 1 f fd ["n"] (pV r_is_size) := by
  refine F.ok sc_is_size (fun vs H Q E h => ?_) (fun cdv A outer s H vs Q E hr h => ?_)
  · obtain ⟨z, ⟨n, rfl, rfl⟩, _⟩ := h
    rfl
  · obtain ⟨z, ⟨n, rfl, rfl⟩, q⟩ := h
    obtain ⟨t1, m1⟩ := c_MOST_ELEMENTS
    refine ⟨_, pss_one (ps_ret (pe_chain op_le op_le pe_int (pv 0) (pe_glob (v := .int 6) rfl m1 ⟨_, rfl⟩))), ?_⟩
    exact s_ret (ev_chain ev_c (ev_var rfl) rv_I0 ev_c rv_I0) q
/-! ### asks -/
abbrev s_asks : Stmt := topS 9
theorem sc_asks : FnScope ["n"] ["n"] (defScope s_asks) := ⟨rfl, rfl, rfl, by decide +kernel, rfl, by decide +kernel, by decide +kernel⟩
def t_asks (_ : Hp) (vs : List V) (out : List Int) : Prop := ∃ n : Int, vs = [.int n] ∧ out = PySv84.asks n
theorem asks_all : ∀ n : Nat, n ≤ 6 → choi n (n / 2) + choi n (n / 2 + 1) = Sv84.choose n (n / 2) + Sv84.choose n (n / 2 + 1)
  | 0, _ => by decide +kernel
  | 1, _ => by decide +kernel
  | 2, _ => by decide +kernel
  | 3, _ => by decide +kernel
  | 4, _ => by decide +kernel
  | 5, _ => by decide +kernel
  | 6, _ => by decide +kernel
  | n + 7, h => by omega
theorem ok_asks {f : Addr} {fd : FuncData} (F : Fun K "asks" "asks" s_asks f fd) (R_is_size : Rdy P w K mg base "is_size" 1 ["n"] (pV r_is_size)) (R_questions : Rdy P w K mg base "questions" 3 ["n"] (pV r_questions)) (c_RANGE : ∃ t, mg "RANGE" = some (.int (-2) t)) : FnOk P w K mg base CX0 4 f fd ["n"] (pT t_asks) := by
  refine F.ok sc_asks (fun vs H Q E h => ?_) (fun cdv A outer s H vs Q E hr h => ?_)
  · obtain ⟨out, ⟨n, rfl, rfl⟩, _⟩ := h
    rfl
  · obtain ⟨out, ⟨n, rfl, rfl⟩, q⟩ := h
    obtain ⟨t1, m1⟩ := c_RANGE
    refine ⟨_, pss_one (ps_ret (pe_ifExp (pt_val (pe_rdy R_is_size (hr.mono (by decide)) rfl (pa_cons (pv 0) pa_nil))) (pe_lst (pa_cons (pe_rdy R_questions (hr.mono (by decide)) rfl (pa_cons (pv 0) pa_nil)) pa_nil)) (pe_lst (pa_cons (pe_glob (v := .int (-2)) rfl m1 ⟨_, rfl⟩) pa_nil)))), ?_⟩
    have spec : PySv84.asks n = Sv84Neutral.on (Sv84.sizeOk n) true fun _ => [((Sv84.choose n.toNat (n.toNat / 2) + Sv84.choose n.toNat (n.toNat / 2 + 1) : Nat) : Int)] := rfl
    refine s_retL (xs := (PySv84.asks n).map V.int) (el_if (b := Sv84.sizeOk n) (et_B (ev_rdy (ea_cons (ev_var rfl) ea_nil) fun _ _ => ⟨n, rfl, rfl⟩)) (fun hb => ?_) (fun hb => ?_)) fun p H2 _ _ hp => q H2 p hp
    · rw [spec]
      unfold Sv84Neutral.on
      rw [if_neg (by rw [hb]; decide), if_neg (by decide)]
      obtain ⟨m, rfl, hm⟩ := size_nat hb
      rw [Int.toNat_natCast, ← asks_all m hm]
      exact el_lst (ea_cons (ev_rdy (ea_cons (ev_var rfl) ea_nil) fun _ _ => ⟨m, hm, rfl, rfl⟩) ea_nil) (by show 1 ≤ 100000; decide)
    · rw [spec]
      unfold Sv84Neutral.on
      rw [if_pos hb]
      exact el_lst (ea_cons ev_c ea_nil) (by show 1 ≤ 100000; decide)
end
theorem all_mk {P : Program} {w : World} {K : PySem.W.Frag} {h : Heap} {mg : Str → Option Value} {fa f_size_of f_choices f_questions f_is_size f_asks : Addr} (X : K.In h) (G : h.Ns mainGlobals mg) (hfa : mg "asks" = some (.ref fa)) {od_size_of an_size_of : Option Addr} {sl_size_of : Array (Option Value)} {oc_size_of kV_size_of dc_size_of pm_size_of cd_size_of ct_size_of : Value} {od_choices an_choices : Option Addr} {sl_choices : Array (Option Value)} {oc_choices kV_choices dc_choices pm_choices cd_choices ct_choices : Value} {od_questions an_questions : Option Addr} {sl_questions : Array (Option Value)} {oc_questions kV_questions dc_questions pm_questions cd_questions ct_questions : Value} {od_is_size an_is_size : Option Addr} {sl_is_size : Array (Option Value)} {oc_is_size kV_is_size dc_is_size pm_is_size cd_is_size ct_is_size : Value} {od_asks an_asks : Option Addr} {sl_asks : Array (Option Value)} {oc_asks kV_asks dc_asks pm_asks cd_asks ct_asks : Value} {tk_MOST_ELEMENTS : Tok} {tk_RANGE : Tok}
    (a_size_of : PySem.W.nsIn K mainGlobals "size_of" = some (some (.ref f_size_of))) (l_size_of : K.lookup f_size_of = some ⟨oc_size_of, od_size_of, .func (PySem.W.fnOf "size_of" "size_of" (defArgs s_size_of) (defBody s_size_of) (defScope s_size_of) .none kV_size_of dc_size_of pm_size_of an_size_of cd_size_of ct_size_of), sl_size_of⟩) (c_size_of : PySem.W.codeIn K cd_size_of "size_of" = true) (k_size_of : PySem.W.keepIn K (.ref f_size_of) = true)
    (a_choices : PySem.W.nsIn K mainGlobals "choices" = some (some (.ref f_choices))) (l_choices : K.lookup f_choices = some ⟨oc_choices, od_choices, .func (PySem.W.fnOf "choices" "choices" (defArgs s_choices) (defBody s_choices) (defScope s_choices) .none kV_choices dc_choices pm_choices an_choices cd_choices ct_choices), sl_choices⟩) (c_choices : PySem.W.codeIn K cd_choices "choices" = true) (k_choices : PySem.W.keepIn K (.ref f_choices) = true)
    (a_questions : PySem.W.nsIn K mainGlobals "questions" = some (some (.ref f_questions))) (l_questions : K.lookup f_questions = some ⟨oc_questions, od_questions, .func (PySem.W.fnOf "questions" "questions" (defArgs s_questions) (defBody s_questions) (defScope s_questions) .none kV_questions dc_questions pm_questions an_questions cd_questions ct_questions), sl_questions⟩) (c_questions : PySem.W.codeIn K cd_questions "questions" = true) (k_questions : PySem.W.keepIn K (.ref f_questions) = true)
    (a_is_size : PySem.W.nsIn K mainGlobals "is_size" = some (some (.ref f_is_size))) (l_is_size : K.lookup f_is_size = some ⟨oc_is_size, od_is_size, .func (PySem.W.fnOf "is_size" "is_size" (defArgs s_is_size) (defBody s_is_size) (defScope s_is_size) .none kV_is_size dc_is_size pm_is_size an_is_size cd_is_size ct_is_size), sl_is_size⟩) (c_is_size : PySem.W.codeIn K cd_is_size "is_size" = true) (k_is_size : PySem.W.keepIn K (.ref f_is_size) = true)
    (a_asks : PySem.W.nsIn K mainGlobals "asks" = some (some (.ref f_asks))) (l_asks : K.lookup f_asks = some ⟨oc_asks, od_asks, .func (PySem.W.fnOf "asks" "asks" (defArgs s_asks) (defBody s_asks) (defScope s_asks) .none kV_asks dc_asks pm_asks an_asks cd_asks ct_asks), sl_asks⟩) (c_asks : PySem.W.codeIn K cd_asks "asks" = true) (k_asks : PySem.W.keepIn K (.ref f_asks) = true)
    (z_range : PySem.W.nsIn K mainGlobals "range" = some none)
    (z_len : PySem.W.nsIn K mainGlobals "len" = some none)
    (z_sum : PySem.W.nsIn K mainGlobals "sum" = some none)
    (g_MOST_ELEMENTS : PySem.W.nsIn K mainGlobals "MOST_ELEMENTS" = some (some (.int 6 tk_MOST_ELEMENTS)))
    (g_RANGE : PySem.W.nsIn K mainGlobals "RANGE" = some (some (.int (-2) tk_RANGE))) :
    ∃ fd : FuncData, (∀ (s : Shared) (us : List Value), us.length = (["n"] : List Str).length → BindsTo s fd ⟨us, []⟩ ((["n"] : List Str).zip us)) ∧ ∀ base : Heap, K.In base → base.Ns mainGlobals mg → FnOk P w K mg base CX0 4 fa fd ["n"] (pT t_asks) := by
  have e := hfa.symm.trans (PySem.W.mg_of X G a_asks)
  cases e
  have F_size_of := fun_mk (st := s_size_of) l_size_of c_size_of k_size_of
  have F_choices := fun_mk (st := s_choices) l_choices c_choices k_choices
  have F_questions := fun_mk (st := s_questions) l_questions c_questions k_questions
  have F_is_size := fun_mk (st := s_is_size) l_is_size c_is_size k_is_size
  have F_asks := fun_mk (st := s_asks) l_asks c_asks k_asks
  have b_size_of := F_size_of.binds (ps := ["n"]) fun _ _ _ _ _ _ us hl => match us, hl with | [_], _ => rfl
  have b_choices := F_choices.binds (ps := ["n", "k"]) fun _ _ _ _ _ _ us hl => match us, hl with | [_, _], _ => rfl
  have b_questions := F_questions.binds (ps := ["n"]) fun _ _ _ _ _ _ us hl => match us, hl with | [_], _ => rfl
  have b_is_size := F_is_size.binds (ps := ["n"]) fun _ _ _ _ _ _ us hl => match us, hl with | [_], _ => rfl
  refine ⟨PySem.W.fnOf "asks" "asks" (defArgs s_asks) (defBody s_asks) (defScope s_asks) .none kV_asks dc_asks pm_asks an_asks cd_asks ct_asks, fun s us hu => match us, hu with | [_], _ => .of_eq rfl, fun base _ _ => ?_⟩
  have R_size_of : Rdy P w K mg base "size_of" 1 ["n"] (pV r_size_of) := ⟨_, _, PySem.W.mg_of X G a_size_of, k_size_of, b_size_of, ok_size_of F_size_of⟩
  have R_choices : Rdy P w K mg base "choices" 2 ["n", "k"] (pV r_choices) := ⟨_, _, PySem.W.mg_of X G a_choices, k_choices, b_choices, ok_choices F_choices R_size_of (PySem.W.mg_none_of X G z_range) (PySem.W.mg_none_of X G z_len) (PySem.W.mg_none_of X G z_sum)⟩
  have R_questions : Rdy P w K mg base "questions" 3 ["n"] (pV r_questions) := ⟨_, _, PySem.W.mg_of X G a_questions, k_questions, b_questions, ok_questions F_questions R_choices⟩
  have R_is_size : Rdy P w K mg base "is_size" 1 ["n"] (pV r_is_size) := ⟨_, _, PySem.W.mg_of X G a_is_size, k_is_size, b_is_size, ok_is_size F_is_size ⟨_, PySem.W.mg_of X G g_MOST_ELEMENTS⟩⟩
  exact ok_asks F_asks R_is_size R_questions ⟨_, PySem.W.mg_of X G g_RANGE⟩
end RT
open PySem PySem.W PyProof.Rows
set_option maxRecDepth 100000 in
set_option maxHeartbeats 8000000 in
theorem PySem.Challenge.cw_risingtables_s08_asks_holds : PySem.Challenge.rw_risingtables_s08_asks.Holds := by
  w_on; k_headS; (case hw => exact ⟨[.int 0], by decide +kernel, by decide +kernel⟩)
  k_fillS
  refine L2.walk_specK (r := PySem.Challenge.rw_risingtables_s08_asks) (k := 4) (CX := L2.CX0) (ps := ["n"]) (sp := fun K => RT.pT RT.t_asks) (by decide +kernel) rfl rfl ⟨rfl, by decide, by decide⟩ (fun w h Y => PySem.W.kIn_of Y) ?F ?S (fun _ _ _ _ z => z)
  case F =>
    intro w mg fa h Y KX G hmg
    refine' RT.all_mk KX G hmg ?a_size_of ?l_size_of ?c_size_of ?k_size_of ?a_choices ?l_choices ?c_choices ?k_choices ?a_questions ?l_questions ?c_questions ?k_questions ?a_is_size ?l_is_size ?c_is_size ?k_is_size ?a_asks ?l_asks ?c_asks ?k_asks ?z_range ?z_len ?z_sum ?g_MOST_ELEMENTS ?g_RANGE
    (case a_size_of => k_is); (case l_size_of => k_is); (case c_size_of => k_is); (case k_size_of => k_is); (case a_choices => k_is); (case l_choices => k_is); (case c_choices => k_is); (case k_choices => k_is); (case a_questions => k_is); (case l_questions => k_is); (case c_questions => k_is); (case k_questions => k_is); (case a_is_size => k_is); (case l_is_size => k_is); (case c_is_size => k_is); (case k_is_size => k_is); (case a_asks => k_is); (case l_asks => k_is); (case c_asks => k_is); (case k_asks => k_is); (case z_range => k_is); (case z_len => k_is); (case z_sum => k_is); (case g_MOST_ELEMENTS => k_is); (case g_RANGE => k_is)
  case S =>
    intro K H xs a hO hwi hask hx
    cases hx with
    | cons h1 h2 =>
      cases h2
      cases h1
      exact ⟨_, ⟨a.1, rfl, rfl⟩, fun H' p hp => .lst (L2.SqL.of hp) (L2.dw_ints _)⟩
#print axioms PySem.Challenge.cw_risingtables_s08_asks_holds
