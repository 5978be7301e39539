import PyProof.Rows.All
import Wide.All
import OpenK.AllK
import Wide.FinOn
import PyProof.EqAt
import PyProof.EqKinds
import PyProof.TupleCall
import Open.SpecLaws
import KE.OsGo
import HandS.ForSpec
import HandS.ForMost
import HandS.Evl
import PySem.Challenge.RW_risingtables_s05_next_one
set_option Elab.async false
set_option linter.all false
set_option maxRecDepth 100000
set_option maxHeartbeats 4000000
namespace RT
open PySem PySem.Spec PyProof.Rows L2 Evl

/-! ### values, promises, calls -/
def vN (k : Nat) : V := .int (k : Int)
/-- a def that stands at its name and keeps its promise -/
structure Rdy (P : Program) (w : World) (K : PySem.W.Frag) (mg : Str → Option Value) (base : Heap) (x : Str) (k : Nat) (ps : List Str) (sp : Sp) : Prop where
  ex : ∃ f fd, mg x = some (.ref f) ∧ PySem.W.keepIn K (.ref f) = true ∧ Binds K fd ps [] ∧ FnOk P w K mg base CX0 k f fd ps sp
theorem pe_rdy {X : Cx} {k : Nat} {x : Str} {ps : List Str} {sp : Sp} {p pos : Pos} {e : Expr} {es : List Expr} {t : TA} (R : Rdy X.prog X.w X.K X.mg X.base x k ps sp) (hr : Room k X.A) (hg : Gl X x) (ha : PA X (e :: es) t)
    (hdb : (x == ("__debug__" : Str)) = false := by decide) (he : starEach (e :: es) X.env = (false, eval e X.env) :: starEach es X.env := by rfl) (hpl : (backTo pos (starEach es X.env)).any (·.1) = false := by rfl) :
    PE X (.Call (.Name x p) (e :: es) [] pos) (tCall sp [] E0 t) := by
  obtain ⟨f, fd, hm, hk, hb, F⟩ := R.ex
  exact pe_call F hr hg hm hk hb .nil pass0 ha hdb he hpl
/-- hands back a value -/
def pV (R : Hp → List V → V → Prop) : Sp := fun vs H Q _ => ∃ z, R H vs z ∧ ∀ H', Ex H H' → Q z H'
/-- hands back a new list -/
def pL (R : Hp → List V → List V → Prop) : Sp := fun vs H Q _ => ∃ xs, R H vs xs ∧ ∀ p H', H p = none → Ex H H' → H' p = some (.lst xs) → Q (.ref p) H'
section
variable {K : PySem.W.Frag} {σ : L2.St} {H : Hp} {ta : TA} {E : XK}
theorem ev_rdy {R : Hp → List V → V → Prop} {vs : List V} {z : V} (h : EvA ta σ H vs) (hR : ∀ H1, Ex H H1 → R H1 vs z) : Ev (tCall (pV R) [] E ta) σ H z :=
  ev_call h fun H1 e Q q E => ⟨z, by rw [List.append_nil]; exact hR H1 e, q⟩
theorem el_rdy {R : Hp → List V → List V → Prop} {vs xs : List V} (h : EvA ta σ H vs) (hR : ∀ H1, Ex H H1 → R H1 vs xs) : EvL (tCall (pL R) [] E ta) σ H xs :=
  el_call h fun H1 e Q q E => ⟨xs, by rw [List.append_nil]; exact hR H1 e, q⟩
end
theorem el_is {te : TE} {σ : L2.St} {H : Hp} {xs ys : List V} (h : EvL te σ H xs) (e : xs = ys) : EvL te σ H ys := by
  rw [← e]
  exact h

/-! ### comprehensions over lists of numbers -/
theorem range_getD {α : Type} (d : α) : ∀ l : List α, (List.range l.length).map (fun i => l.getD i d) = l := by
  intro l
  apply List.ext_getElem?
  intro i
  by_cases h : i < l.length
  · simp [h]
  · simp [h, Nat.not_lt.mp h]
theorem given_nats (ys : List Nat) (p : Nat → Bool) (q : Nat → V) (n : Nat) (hn : n = ys.length) : given n (fun i => p (ys.getD i 0)) (fun i => q (ys.getD i 0)) = (ys.filter p).map q := by
  subst hn
  unfold given
  have e := range_getD 0 ys
  have e2 : ((List.range ys.length).map (fun i => ys.getD i 0)).filter p = ys.filter p := by rw [e]
  rw [List.filter_map] at e2
  rw [← e2, List.map_map]
  rfl
theorem getD_of {ys : List Nat} {i : Nat} {x : V} (h : (ys.map vN)[i]? = some x) : x = vN (ys.getD i 0) := by
  rw [List.getElem?_map] at h
  cases e : ys[i]? with
  | none => rw [e] at h; cases h
  | some y =>
    rw [e] at h
    rw [List.getD_eq_getElem?_getD, e]
    exact (Option.some.inj h).symm
theorem len_filter_le {ys : List Nat} {p : Nat → Bool} : (ys.filter p).length ≤ ys.length := List.length_filter_le p ys

/-! ### lists compared with the empty list -/
def isNil {α : Type} : List α → Bool
  | [] => true
  | _ :: _ => false
theorem isNil_map {α β : Type} (f : α → β) (l : List α) : isNil (l.map f) = isNil l := by cases l <;> rfl
theorem isNil_filter {α : Type} (p : α → Bool) (l : List α) : isNil (l.filter p) = l.all (fun x => !p x) := by
  induction l with
  | nil => rfl
  | cons a l ih =>
    rw [List.filter_cons, List.all_cons]
    cases h : p a with
    | true => rfl
    | false => exact ih
theorem lay_ints : ∀ ns : List Int, PyData.canLayAll0 (ns.map PyData.int) = true
  | [] => by simp [PyData.canLayAll0]
  | n :: r => by
    rw [List.map_cons, PyData.canLayAll0, lay_ints r, PyData.canLay0] <;> rfl
theorem depth_ints : ∀ ns : List Int, PyData.depthAll (ns.map PyData.int) ≤ 1
  | [] => by simp [PyData.depthAll]
  | n :: r => by
    have ih := depth_ints r
    rw [List.map_cons, PyData.depthAll, PyData.depth]
    omega
theorem shaped_ints (ns : List Int) : SeqAt.shaped (.list (ns.map PyData.int)) = true := by
  unfold SeqAt.shaped
  rw [Bool.and_eq_true]
  refine ⟨?_, decide_eq_true ?_⟩
  · rw [PyData.canLay0]
    exact lay_ints ns
  · have := depth_ints ns
    rw [PyData.depth]
    omega
theorem dp_ints {K : PySem.W.Frag} {H : Hp} : ∀ ns : List Int, DpAll K H (ns.map V.int) (ns.map PyData.int)
  | [] => .nil
  | n :: r => .cons (.int n) (dp_ints r)
theorem eqv_nil (ns : List Int) : PyData.eqv (.list (ns.map PyData.int)) (.list []) = isNil ns := by
  cases ns with
  | nil => decide +kernel
  | cons n r =>
    rw [List.map_cons]
    simp [PyData.eqv, PyData.eqvAll, isNil]
section
variable {K : PySem.W.Frag} {σ : L2.St} {H : Hp} {ta tb : TE}
/-- [..] == [] -/
theorem ev_eqNil {ns : List Nat} (ha : EvL ta σ H (ns.map vN)) : Ev (tOp (rEqD K) ta (tLst tNil)) σ H (.bl (isNil ns)) :=
  ev_opLL ha (el_lst ea_nil (Nat.zero_le _)) fun p q H1 hp hq _ => fun H2 e2 Q k => by
    have hm : ns.map vN = (ns.map fun (k : Nat) => (k : Int)).map V.int := by rw [List.map_map]; rfl
    rw [hm] at hp
    refine ⟨_, .list [], .lst (ex_l e2 (sq_of hp)) (dp_ints _), .lst (ex_l e2 (sq_of hq)) .nil, shaped_ints _, shaped_ints [], ?_⟩
    rw [eqv_nil, isNil_map]
    exact k H2 (Ex.refl H2)
/-- [..] != [] -/
theorem ev_neNil {ns : List Nat} (ha : EvL ta σ H (ns.map vN)) : Ev (tOp (rNeD K) ta (tLst tNil)) σ H (.bl (!isNil ns)) :=
  ev_opLL ha (el_lst ea_nil (Nat.zero_le _)) fun p q H1 hp hq _ => fun H2 e2 Q k => by
    have hm : ns.map vN = (ns.map fun (k : Nat) => (k : Int)).map V.int := by rw [List.map_map]; rfl
    rw [hm] at hp
    refine ⟨_, .list [], .lst (ex_l e2 (sq_of hp)) (dp_ints _), .lst (ex_l e2 (sq_of hq)) .nil, shaped_ints _, shaped_ints [], ?_⟩
    rw [eqv_nil, isNil_map]
    exact k H2 (Ex.refl H2)
end

/-! ### numbers -/
def bt (t x : Nat) : Nat := t / 2 ^ x % 2
theorem bt_eq (t x : Nat) : bt t x = (t.testBit x).toNat := by
  unfold bt
  rw [Nat.testBit_eq_decide_div_mod_eq]
  have h := Nat.mod_two_eq_zero_or_one (t / 2 ^ x)
  rcases h with h | h <;> rw [h] <;> rfl
theorem bt_zero {t x : Nat} : decide (vN (bt t x) = V.int 0) = !t.testBit x := by
  rw [bt_eq]
  cases t.testBit x <;> decide
theorem bt_one {t x : Nat} : decide (vN (bt t x) = V.int 1) = t.testBit x := by
  rw [bt_eq]
  cases t.testBit x <;> decide
theorem shr_nat (t x : Nat) : V.int ((t : Int) / 2 ^ (x : Int).toNat % 2) = vN (bt t x) := by
  unfold vN bt
  rw [Int.toNat_natCast]
  norm_cast
theorem shl_nat (a x : Nat) : V.int ((a : Int) * 2 ^ (x : Int).toNat) = vN (a * 2 ^ x) := by
  unfold vN
  rw [Int.toNat_natCast]
  norm_cast
theorem pow_le_64 {n : Nat} (h : n ≤ 6) : 2 ^ n ≤ 64 := Nat.pow_le_pow_right (n := 2) (by decide) h
theorem cpow_nat {a x : Nat} (hx : x ≤ 1000) (ha : a < 2 ^ 64) : CPow (a : Int) (x : Int) := ⟨Int.natCast_nonneg _, by omega, by rw [Int.natAbs_natCast]; exact ha⟩

/-! ### the tables as sums -/
def tabTo (f : Nat → Bool) (i : Nat) : Nat := ((List.range i).map fun x => if f x = true then 2 ^ x else 0).sum
theorem tabTo_succ (f : Nat → Bool) (i : Nat) : tabTo f (i + 1) = tabTo f i + if f i = true then 2 ^ i else 0 := by
  unfold tabTo
  rw [List.range_succ, List.map_append, List.sum_append]
  simp
theorem table_tabTo (n : Nat) (f : Nat → Bool) : Sv84.table n f = tabTo f (2 ^ n) := rfl
end RT
namespace RT
open PySem PySem.Spec PyProof.Rows L2 Evl
section
variable {K : PySem.W.Frag} {σ : L2.St} {H : Hp} {ta tb tc te : TE} {t : TT}
theorem ev_chain {r r' : R2} {x y z : V} {a b : Bool} (ha : Ev ta σ H x) (hb : Ev tb σ H y) (hr : RV r x y H (.bl a)) (hc : Ev tc σ H z) (hr' : RV r' y z H (.bl b)) : Ev (tChain r r' ta tb tc) σ H (.bl (a && b)) := fun H1 e Q q =>
  ha H1 e _ fun H2 e2 => hb H2 (e.trans e2) _ fun H3 e3 => hr H3 ((e.trans e2).trans e3) _ fun H4 e4 => ⟨a, rfl, by
    cases a with
    | true =>
      show tc σ H4 fun w' H5 => r' y w' H5 Q
      exact hc H4 (((e.trans e2).trans e3).trans e4) _ fun H5 e5 => hr' H5 ((((e.trans e2).trans e3).trans e4).trans e5) Q fun H6 e6 => q H6 (((((e2.trans e3).trans e4).trans e5)).trans e6)
    | false =>
      show Q (.bl false) H4
      exact q H4 ((e2.trans e3).trans e4)⟩
theorem el_if {b : Bool} {xs : List V} (h : EvT t σ H b) (h1 : b = true → EvL ta σ H xs) (h2 : b = false → EvL tb σ H xs) : EvL (tIf t ta tb) σ H xs := fun H1 e Q q => h H1 e _ fun H2 e2 => by
  cases b with
  | true =>
    show ta σ H2 Q
    exact h1 rfl H2 (e.trans e2) Q fun p H3 hp e3 h3 => q p H3 (fresh_back e2 hp) (e2.trans e3) h3
  | false =>
    show tb σ H2 Q
    exact h2 rfl H2 (e.trans e2) Q fun p H3 hp e3 h3 => q p H3 (fresh_back e2 hp) (e2.trans e3) h3
end
/-- the asked def's own promise: a list that holds the answer -/
def pT (S : Hp → List V → List Int → Prop) : Sp := fun vs H Q _ => ∃ out, S H vs out ∧ ∀ H' p, H' p = some (.lst (out.map V.int)) → Q (.ref p) H'

/-! ### refusals -/
def refus (n t : Int) : Int := if Sv84.sizeOk n = true then (if t < ((2 ^ 2 ^ n.toNat : Nat) : Int) then 0 else -3) else -2
theorem size_nat {n : Int} (h : Sv84.sizeOk n = true) : ∃ m : Nat, n = (m : Int) ∧ m ≤ 6 := by
  unfold Sv84.sizeOk Sv84.between at h
  rw [Bool.and_eq_true, decide_eq_true_eq, decide_eq_true_eq] at h
  exact ⟨n.toNat, by omega, by omega⟩
theorem refus_ok {n t : Int} (h : ¬ refus n t < 0) (ht : 0 ≤ t) : ∃ m u : Nat, n = (m : Int) ∧ m ≤ 6 ∧ t = (u : Int) ∧ u < 2 ^ 2 ^ m := by
  unfold refus at h
  by_cases h1 : Sv84.sizeOk n = true
  · rw [if_pos h1] at h
    obtain ⟨m, rfl, hm⟩ := size_nat h1
    rw [Int.toNat_natCast] at h
    by_cases h2 : t < ((2 ^ 2 ^ m : Nat) : Int)
    · exact ⟨m, t.toNat, rfl, hm, by omega, by omega⟩
    · rw [if_neg h2] at h
      exact absurd (by decide) h
  · rw [if_neg h1] at h
    exact absurd (by decide) h
theorem on_refus {n t : Int} (ht : 0 ≤ t) (x : Unit → List Int) : Sv84Neutral.on (Sv84.sizeOk n) (Sv84.fits n.toNat t.toNat) x = if refus n t < 0 then [refus n t] else x () := by
  unfold Sv84Neutral.on refus Sv84.fits
  cases h1 : Sv84.sizeOk n with
  | false => rfl
  | true =>
    rw [if_neg (by decide), if_pos rfl]
    generalize (2 ^ 2 ^ n.toNat : Nat) = N
    by_cases h2 : t < (N : Int)
    · rw [if_pos h2, decide_eq_true (show t.toNat < N by omega), if_neg (by decide), if_neg (by decide)]
    · rw [if_neg h2, decide_eq_false (show ¬ t.toNat < N by omega), if_pos rfl, if_pos (by decide)]
end RT
namespace RT
open PySem PySem.Spec PyProof.Rows L2 Evl
/-! ### the neighbours of a set -/
def aboveN (n x : Nat) : List Nat := ((List.range n).filter fun e => !x.testBit e).map fun e => x + 2 ^ e
def belowN (n x : Nat) : List Nat := ((List.range n).filter fun e => x.testBit e).map fun e => x - 2 ^ e
theorem aboveN_len (n x : Nat) : (aboveN n x).length ≤ n := by
  unfold aboveN
  rw [List.length_map]
  have h := List.length_filter_le (fun e => !x.testBit e) (List.range n)
  rw [List.length_range] at h
  exact h
theorem belowN_len (n x : Nat) : (belowN n x).length ≤ n := by
  unfold belowN
  rw [List.length_map]
  have h := List.length_filter_le (fun e => x.testBit e) (List.range n)
  rw [List.length_range] at h
  exact h
theorem all_filter {α : Type} (p q : α → Bool) (l : List α) : (l.filter p).all q = l.all fun x => !p x || q x := by
  induction l with
  | nil => rfl
  | cons a l ih =>
    rw [List.filter_cons, List.all_cons]
    cases h : p a with
    | true => rw [if_pos rfl, List.all_cons, ih] <;> rfl
    | false => rw [if_neg (by decide), ih] <;> rfl
theorem all_map {α β : Type} (f : α → β) (q : β → Bool) (l : List α) : (l.map f).all q = l.all fun x => q (f x) := by
  induction l with
  | nil => rfl
  | cons a l ih => rw [List.map_cons, List.all_cons, List.all_cons, ih]
theorem all_or {α : Type} (b : Bool) (q : α → Bool) (l : List α) (h : b = false ∨ l ≠ [] ∨ True) : (l.all fun x => b || q x) = (b || l.all q) := by
  cases b with
  | true => simp
  | false => simp
theorem all_congr {α : Type} {p q : α → Bool} {l : List α} (h : ∀ x ∈ l, p x = q x) : l.all p = l.all q := by
  induction l with
  | nil => rfl
  | cons a l ih => rw [List.all_cons, List.all_cons, h a (List.mem_cons_self ..), ih fun x hx => h x (List.mem_cons_of_mem _ hx)]
def riseAt (n t x : Nat) : Bool := !t.testBit x || (aboveN n x).all fun y => t.testBit y
def isRis (n t : Nat) : Bool := (List.range (2 ^ n)).all fun x => riseAt n t x
theorem isRis_is (n t : Nat) : isRis n t = Sv84.rises n t := by
  unfold isRis Sv84.rises Sv84.sets Sv84.gives
  refine all_congr fun x _ => ?_
  unfold riseAt aboveN
  rw [all_map, all_filter, all_or _ _ _ (.inr (.inr trivial))]
  congr 1
  refine all_congr fun e _ => ?_
  rw [Bool.not_not]
def leastAt (n t x : Nat) : Bool := t.testBit x && (belowN n x).all fun y => !t.testBit y
def leastTo (n t i : Nat) : List Nat := (List.range i).filter fun x => leastAt n t x
theorem leastTo_is (n t : Nat) : leastTo n t (2 ^ n) = Sv84.least n t := by
  unfold leastTo Sv84.least Sv84.sets Sv84.gives
  refine List.filter_congr fun x _ => ?_
  unfold leastAt belowN
  rw [all_map, all_filter]
theorem leastTo_len (n t i : Nat) : (leastTo n t i).length ≤ i := by
  unfold leastTo
  have h := List.length_filter_le (fun x => leastAt n t x) (List.range i)
  rw [List.length_range] at h
  exact h
theorem leastTo_yes {n t i : Nat} (h : leastAt n t i = true) : leastTo n t (i + 1) = leastTo n t i ++ [i] := by
  unfold leastTo
  rw [List.range_succ, List.filter_append, List.filter_cons, if_pos h] <;> rfl
theorem leastTo_no {n t i : Nat} (h : leastAt n t i = false) : leastTo n t (i + 1) = leastTo n t i := by
  unfold leastTo
  rw [List.range_succ, List.filter_append, List.filter_cons, if_neg (by rw [h]; decide), List.filter_nil, List.append_nil]
theorem pow_le_of_bit {x e : Nat} (h : x.testBit e = true) : 2 ^ e ≤ x := by
  apply Nat.le_of_not_lt
  intro hlt
  rw [Nat.testBit_lt_two_pow hlt] at h
  cases h
theorem bitAnd_nat (a b : Nat) : Builtin.bitAnd (a : Int) (b : Int) = ((a &&& b : Nat) : Int) := by
  unfold Builtin.bitAnd
  rw [decide_eq_true (Int.natCast_nonneg a), decide_eq_true (Int.natCast_nonneg b)]
  rfl
theorem bitOr_nat (a b : Nat) : Builtin.bitOr (a : Int) (b : Int) = ((a ||| b : Nat) : Int) := by
  have h1 : ∀ c : Nat, Builtin.bitNot (Builtin.bitNot (c : Int)) = (c : Int) := fun c => by
    unfold Builtin.bitNot
    omega
  have h2 : ∀ c : Nat, ¬ 0 ≤ Builtin.bitNot (c : Int) := fun c => by
    unfold Builtin.bitNot
    omega
  unfold Builtin.bitOr Builtin.bitAnd
  rw [decide_eq_false (h2 a), decide_eq_false (h2 b)]
  show Builtin.bitNot (Builtin.bitNot (((Builtin.bitNot (Builtin.bitNot (a : Int))).toNat ||| (Builtin.bitNot (Builtin.bitNot (b : Int))).toNat : Nat) : Int)) = _
  rw [h1 a, h1 b, h1, Int.toNat_natCast, Int.toNat_natCast]
theorem vN_eq (a b : Nat) : decide (vN a = vN b) = (a == b) := by
  by_cases h : a = b
  · subst h
    rw [decide_eq_true rfl, beq_self_eq_true]
  · rw [decide_eq_false (show ¬ vN a = vN b from fun e => h (Int.ofNat_inj.mp (V.int.inj e)))]
    exact (beq_eq_false_iff_ne.mpr h).symm
theorem sum_cast : ∀ ns : List Nat, (ns.map fun (k : Nat) => (k : Int)).sum = ((ns.sum : Nat) : Int)
  | [] => rfl
  | n :: r => by
    rw [List.map_cons, List.sum_cons, List.sum_cons, sum_cast r, Int.natCast_add]
theorem map_vN (ns : List Nat) : ns.map vN = (ns.map fun (k : Nat) => (k : Int)).map V.int := by
  rw [List.map_map]
  rfl
section
variable {K : PySem.W.Frag} {σ : L2.St} {H : Hp} {ta tb tc te : TE} {t : TT}
theorem ev_sumN {ns : List Nat} (ha : EvL ta σ H (ns.map vN)) : Ev (tCB (rSum K) (tCons ta tNil)) σ H (vN ns.sum) := fun H1 e Q q =>
  ha H1 e _ fun p H2 _ e2 h2 => ⟨p, ns.map fun (k : Nat) => (k : Int), rfl, sq_of (by rw [h2, map_vN]), by rw [sum_cast]; exact q H2 e2⟩
/-- [..] + xs -/
theorem el_cat {b : Addr} {xs zs : List V} (ha : EvL ta σ H xs) (hb : Ev tb σ H (.ref b)) (hz : H b = some (.lst zs)) (hl : xs.length + zs.length ≤ 100000) : EvL (tOp rCat ta tb) σ H (xs ++ zs) := fun H1 e Q q =>
  ha H1 e _ fun p H2 hp e2 h2 => hb H2 (e.trans e2) _ fun H3 e3 => ⟨p, b, xs, zs, rfl, rfl, e3 p _ h2, ((e.trans e2).trans e3) b _ hz, sz_of hl, fun r hr => q r _ (fresh_back (e2.trans e3) hr) ((e2.trans e3).trans (Ex.new hr)) upd_same⟩
end
end RT
namespace RT
open PySem PySem.Spec PyProof.Rows L2 Evl
section
variable {X : Cx} {p pos : Pos} {e : Expr} {es : List Expr} {t : TA}
theorem pe_sum {K : PySem.W.Frag} (hK : X.K = K) (hc : X.calm = true) (hg : Gl X "sum") (hm : X.mg "sum" = none) (ha : PA X (e :: es) t)
    (he : starEach (e :: es) X.env = (false, eval e X.env) :: starEach es X.env := by rfl) (hpl : (backTo pos (starEach es X.env)).any (·.1) = false := by rfl) : PE X (.Call (.Name "sum" p) (e :: es) [] pos) (tCB (rSum K) t) := by
  subst hK
  exact pe_callB (cr_sum hc) hg hm (by decide +kernel) ha (by decide) (by decide) he hpl
theorem pe_min {K : PySem.W.Frag} (hK : X.K = K) (hc : X.calm = true) (hg : Gl X "min") (hm : X.mg "min" = none) (ha : PA X (e :: es) t)
    (he : starEach (e :: es) X.env = (false, eval e X.env) :: starEach es X.env := by rfl) (hpl : (backTo pos (starEach es X.env)).any (·.1) = false := by rfl) : PE X (.Call (.Name "min" p) (e :: es) [] pos) (tCB (rMin K) t) := by
  subst hK
  exact pe_callB (cr_min hc) hg hm (by decide +kernel) ha (by decide) (by decide) he hpl
end
end RT
namespace RT
open PySem PySem.Spec PyProof.Rows L2 Evl
/-! ### next: the plain law -/
def candAt (n t x : Nat) : Bool := !t.testBit x && (aboveN n x).all fun y => t.testBit y
def upAt (t x : Nat) : Nat := (t / 2 ^ x + 1) * 2 ^ x
/-- the loop: x = k - 1, .., 0 -/
def nextGo (n t : Nat) : Nat → Option Nat → Option Nat
  | 0, c => c
  | k + 1, c => if riseAt n t k = true then nextGo n t k (if candAt n t k = true then some (upAt t k) else c) else (if candAt n t k = true then some (upAt t k) else c)
/-- what the specification tries at k -/
def nextAt (n t k : Nat) : Option Nat := if t.testBit k = true then none else
  let s := t / 2 ^ (k + 1) * 2 ^ (k + 1) + 2 ^ k
  if Sv84.rises n s = true then some s else none
theorem nextOf_is (n t : Nat) : Sv84Neutral.nextOf n t = (List.range (2 ^ n)).findSome? fun k => nextAt n t k := rfl
theorem up_bit (t k j : Nat) : (t / 2 ^ (k + 1) * 2 ^ (k + 1) + 2 ^ k).testBit j = if j < k then false else if j = k then true else t.testBit j := by
  rw [Nat.mul_comm, Nat.testBit_two_pow_mul_add _ (Nat.pow_lt_pow_right (by decide) (Nat.lt_succ_self k))]
  by_cases h1 : j < k
  · rw [if_pos (by omega), if_pos h1, Nat.testBit_two_pow]
    exact decide_eq_false (by omega)
  · rw [if_neg h1]
    by_cases h2 : j = k
    · rw [if_pos (by omega), if_pos h2, Nat.testBit_two_pow]
      exact decide_eq_true h2.symm
    · rw [if_neg (by omega), if_neg h2, Nat.testBit_div_two_pow]
      congr 1
      omega
theorem up_is {t k : Nat} (h : t.testBit k = false) : t / 2 ^ (k + 1) * 2 ^ (k + 1) + 2 ^ k = upAt t k := by
  unfold upAt
  rw [Nat.testBit_eq_decide_div_mod_eq] at h
  have h2 := of_decide_eq_false h
  have h3 : t / 2 ^ (k + 1) = t / 2 ^ k / 2 := by rw [Nat.pow_succ, Nat.div_div_eq_div_mul]
  have h4 : t / 2 ^ k = 2 * (t / 2 ^ k / 2) := by omega
  rw [h3, Nat.pow_succ, Nat.add_mul, Nat.one_mul]
  generalize t / 2 ^ k / 2 = q at h4 ⊢
  rw [h4, Nat.mul_comm (2 ^ k) 2, ← Nat.mul_assoc, Nat.mul_comm q 2]
theorem above_gt {n x y : Nat} (h : y ∈ aboveN n x) : x < y := by
  unfold aboveN at h
  obtain ⟨e, _, rfl⟩ := List.mem_map.mp h
  have := Nat.two_pow_pos e
  omega
/-- a table as another one from k on, 1 at k, 0 below -/
theorem rise_up {n t k x : Nat} : riseAt n (t / 2 ^ (k + 1) * 2 ^ (k + 1) + 2 ^ k) x = if x < k then true else if x = k then (aboveN n k).all (fun y => t.testBit y) else riseAt n t x := by
  unfold riseAt
  rw [up_bit]
  by_cases h1 : x < k
  · rw [if_pos h1, if_pos h1]
    rfl
  · rw [if_neg h1, if_neg h1]
    have e : (aboveN n x).all (fun y => (t / 2 ^ (k + 1) * 2 ^ (k + 1) + 2 ^ k).testBit y) = (aboveN n x).all (fun y => t.testBit y) := by
      refine all_congr fun y hy => ?_
      have := above_gt hy
      rw [up_bit, if_neg (by omega), if_neg (by omega)]
    rw [e]
    by_cases h2 : x = k
    · rw [if_pos h2, if_pos h2, h2]
      rfl
    · rw [if_neg h2, if_neg h2]
theorem nextAt_none {n t k x : Nat} (hk : k < x) (hx : x < 2 ^ n) (h : riseAt n t x = false) : nextAt n t k = none := by
  unfold nextAt
  by_cases h1 : t.testBit k = true
  · rw [if_pos h1]
  · rw [if_neg h1]
    refine if_neg ?_
    rw [← isRis_is]
    unfold isRis
    intro q
    have := List.all_eq_true.mp q x (List.mem_range.mpr hx)
    rw [rise_up, if_neg (by omega), if_neg (by omega), h] at this
    cases this
theorem nextAt_some {n t k : Nat} (hk : k < 2 ^ n) (h : ∀ x, k < x → x < 2 ^ n → riseAt n t x = true) : nextAt n t k = if candAt n t k = true then some (upAt t k) else none := by
  unfold nextAt candAt
  cases h1 : t.testBit k with
  | true => rfl
  | false =>
    rw [if_neg (by decide)]
    show (if Sv84.rises n (t / 2 ^ (k + 1) * 2 ^ (k + 1) + 2 ^ k) = true then some (t / 2 ^ (k + 1) * 2 ^ (k + 1) + 2 ^ k) else none) = if (aboveN n k).all (fun y => t.testBit y) = true then some (upAt t k) else none
    have e : Sv84.rises n (t / 2 ^ (k + 1) * 2 ^ (k + 1) + 2 ^ k) = (aboveN n k).all (fun y => t.testBit y) := by
      rw [← isRis_is]
      unfold isRis
      rw [Bool.eq_iff_iff, List.all_eq_true]
      refine ⟨fun q => ?_, fun q x hx => ?_⟩
      · have := q k (List.mem_range.mpr hk)
        rw [rise_up, if_neg (Nat.lt_irrefl k), if_pos rfl] at this
        exact this
      · rw [rise_up]
        by_cases h2 : x < k
        · rw [if_pos h2]
        · rw [if_neg h2]
          by_cases h3 : x = k
          · rw [if_pos h3]
            exact q
          · rw [if_neg h3]
            exact h x (by omega) (List.mem_range.mp hx)
    rw [e, up_is h1]
theorem nextGo_is (n t : Nat) : ∀ (m : Nat) (c : Option Nat), m ≤ 2 ^ n → (∀ x, m ≤ x → x < 2 ^ n → riseAt n t x = true) → nextGo n t m c = ((List.range m).findSome? fun k => nextAt n t k).or c
  | 0, c, _, _ => rfl
  | m + 1, c, hm, h => by
    rw [List.range_succ, List.findSome?_append]
    unfold nextGo
    have e1 := nextAt_some (n := n) (t := t) (k := m) (by omega) (fun x h1 h2 => h x (by omega) h2)
    have e2 : ([m].findSome? fun k => nextAt n t k) = nextAt n t m := by
      rw [List.findSome?_cons]
      cases nextAt n t m <;> rfl
    rw [e2]
    by_cases hr : riseAt n t m = true
    · rw [if_pos hr, nextGo_is n t m _ (by omega) (fun x h1 h2 => by
        by_cases hx : x = m
        · rw [hx]; exact hr
        · exact h x (by omega) h2), e1]
      by_cases hc : candAt n t m = true
      · rw [if_pos hc, if_pos hc]
        cases ((List.range m).findSome? fun k => nextAt n t k) <;> rfl
      · rw [if_neg hc, if_neg hc]
        cases ((List.range m).findSome? fun k => nextAt n t k) <;> rfl
    · have hr2 : riseAt n t m = false := by simpa using hr
      have hc : candAt n t m = false := by
        unfold riseAt at hr2
        unfold candAt
        cases hb : t.testBit m with
        | true => rfl
        | false =>
          rw [hb] at hr2
          cases hr2
      have e3 : ((List.range m).findSome? fun k => nextAt n t k) = none := by
        rw [List.findSome?_eq_none_iff]
        intro k hk
        exact nextAt_none (List.mem_range.mp hk) (by omega) hr2
      rw [if_neg hr, e3, e1, hc, if_neg (by decide), if_neg (by decide)]
      rfl
theorem next_is (n t : Nat) : nextGo n t (2 ^ n) none = Sv84Neutral.nextOf n t := by
  rw [nextGo_is n t (2 ^ n) none (Nat.le_refl _) (fun x h1 h2 => absurd h2 (by omega)), nextOf_is, Option.or_none]
def optV : Option Nat → V
  | none => .non
  | some k => vN k
theorem up_val (t x : Nat) : V.int (((t : Int) / 2 ^ ((x : Nat) : Int).toNat + 1) * 2 ^ ((x : Nat) : Int).toNat) = vN (upAt t x) := by
  unfold vN upAt
  rw [Int.toNat_natCast]
  norm_cast
theorem up_small {t x : Nat} (ht : t < 2 ^ 64) (h : t.testBit x = false) : t / 2 ^ x + 1 < 2 ^ 64 := by
  rw [Nat.testBit_eq_decide_div_mod_eq] at h
  have h2 := of_decide_eq_false h
  have h3 : t / 2 ^ x ≤ t := Nat.div_le_self _ _
  omega
section
variable {K : PySem.W.Frag} {σ : L2.St} {H : Hp} {D : Ends} {tu tz : TS}
theorem q_forR3 {ta : TA} {j : Nat} {lo hi c : Int} {n : Nat} (h : EvA ta σ H [.int lo, .int hi, .int c]) (hn : RgC lo hi c n) (Pv : Nat → L2.St → Hp → Prop) (h0 : ∀ H1, Ex H H1 → Pv 0 σ H1)
    (hs : ∀ (i : Nat) σ' H', i < n → Pv i σ' H' → tu { D with nx := Pv (i + 1), ct := Pv (i + 1), bk := tz D } (σ'.set j (some (.int (lo + (i : Nat) * c)))) H') (hd : ∀ σ' H', Pv n σ' H' → tz D σ' H') : tSeq (tFor (iRng3 ta) (gName j) tu) tz D σ H :=
  h H (Ex.refl H) _ fun H1 e => ⟨lo, hi, c, n, rfl, hn, for_rangeC (D := { D with nx := tz D }) Pv (h0 H1 e) hs hd⟩
end
end RT
namespace RT
open PySem PySem.Spec PyProof.Rows L2 Evl
/-! ### the text by places -/
def topS (i : Nat) : Stmt := PySem.Challenge.pw_risingtables_s05_next_one.main.body.getD i (.Pass ⟨0, 0, 0, 0⟩)
section
variable {P : Program} {w : World} {K : PySem.W.Frag} {mg : Str → Option Value} {base : Heap}
/-! ### size_of -/
abbrev s_size_of : Stmt := topS 1
theorem sc_size_of : FnScope ["n"] ["n"] (defScope s_size_of) := ⟨rfl, rfl, rfl, by decide +kernel, rfl, by decide +kernel, by decide +kernel⟩
def r_size_of (_ : Hp) (vs : List V) (z : V) : Prop := ∃ n : Nat, n ≤ 64 ∧ vs = [vN n] ∧ z = vN (2 ^ n)
theorem ok_size_of {f : Addr} {fd : FuncData} (F : Fun K "size_of" "size_of" s_size_of f fd) : FnOk P w K mg base CX0 1 f fd ["n"] (pV r_size_of) := by
  refine F.ok sc_size_of (fun vs H Q E h => ?_) (fun cdv A outer s H vs Q E hr h => ?_)
  · obtain ⟨z, ⟨n, hn, rfl, rfl⟩, _⟩ := h
    rfl
  · obtain ⟨z, ⟨n, hn, rfl, rfl⟩, q⟩ := h
    refine ⟨_, pss_one (ps_ret (pe_op op_shl pe_int (pv 0))), ?_⟩
    refine s_ret (ev_is (ev_op ev_c (ev_var rfl) (rv_I (cpow_nat (a := 1) (by omega) (by decide)))) ?_) q
    exact (shl_nat 1 n).trans (by rw [Nat.one_mul])
/-! ### bit -/
abbrev s_bit : Stmt := topS 2
theorem sc_bit : FnScope ["t", "x"] ["t", "x"] (defScope s_bit) := ⟨rfl, rfl, rfl, by decide +kernel, rfl, by decide +kernel, by decide +kernel⟩
def r_bit (_ : Hp) (vs : List V) (z : V) : Prop := ∃ t x : Nat, vs = [vN t, vN x] ∧ z = vN (bt t x)
theorem ok_bit {f : Addr} {fd : FuncData} (F : Fun K "bit" "bit" s_bit f fd) : FnOk P w K mg base CX0 1 f fd ["t", "x"] (pV r_bit) := by
  refine F.ok sc_bit (fun vs H Q E h => ?_) (fun cdv A outer s H vs Q E hr h => ?_)
  · obtain ⟨z, ⟨t, x, rfl, rfl⟩, _⟩ := h
    rfl
  · obtain ⟨z, ⟨t, x, rfl, rfl⟩, q⟩ := h
    refine ⟨_, pss_one (ps_ret (pe_op op_mod (pe_op op_shr (pv 0) (pv 1)) pe_int)), ?_⟩
    exact s_ret (ev_is (ev_op (ev_op (ev_var rfl) (ev_var rfl) (rv_I (Int.natCast_nonneg x))) ev_c (rv_I (by show (0 : Int) < 2; decide))) (shr_nat t x)) q
/-! ### has -/
abbrev s_has : Stmt := topS 3
theorem sc_has : FnScope ["x", "element"] ["x", "element"] (defScope s_has) := ⟨rfl, rfl, rfl, by decide +kernel, rfl, by decide +kernel, by decide +kernel⟩
def r_has (_ : Hp) (vs : List V) (z : V) : Prop := ∃ x e : Nat, vs = [vN x, vN e] ∧ z = .bl (x.testBit e)
theorem ok_has {f : Addr} {fd : FuncData} (F : Fun K "has" "has" s_has f fd) : FnOk P w K mg base CX0 1 f fd ["x", "element"] (pV r_has) := by
  refine F.ok sc_has (fun vs H Q E h => ?_) (fun cdv A outer s H vs Q E hr h => ?_)
  · obtain ⟨z, ⟨x, e, rfl, rfl⟩, _⟩ := h
    rfl
  · obtain ⟨z, ⟨x, e, rfl, rfl⟩, q⟩ := h
    refine ⟨_, pss_one (ps_ret (pe_cmpR op_eq (pe_op op_mod (pe_op op_shr (pv 0) (pv 1)) pe_int) pe_int (nomark _))), ?_⟩
    exact s_ret (ev_is (ev_op (ev_is (ev_op (ev_op (ev_var rfl) (ev_var rfl) (rv_I (Int.natCast_nonneg e))) ev_c (rv_I (by show (0 : Int) < 2; decide))) (shr_nat x e)) ev_c (rv_eq rfl)) (congrArg V.bl bt_one)) q
/-! ### above -/
abbrev s_above : Stmt := topS 4
theorem sc_above : FnScope ["n", "x", "element"] ["n", "x"] (defScope s_above) := ⟨rfl, rfl, rfl, by decide +kernel, rfl, by decide +kernel, by decide +kernel⟩
def r_above (_ : Hp) (vs xs : List V) : Prop := ∃ n x : Nat, n ≤ 6 ∧ vs = [vN n, vN x] ∧ xs = (aboveN n x).map vN
theorem ok_above {f : Addr} {fd : FuncData} (F : Fun K "above" "above" s_above f fd) (R_has : Rdy P w K mg base "has" 1 ["x", "element"] (pV r_has)) (z_range : mg "range" = none) : FnOk P w K mg base CX0 2 f fd ["n", "x"] (pL r_above) := by
  refine F.ok sc_above (fun vs H Q E h => ?_) (fun cdv A outer s H vs Q E hr h => ?_)
  · obtain ⟨z, ⟨n, x, hn, rfl, rfl⟩, _⟩ := h
    rfl
  · obtain ⟨z, ⟨n, x, hn, rfl, rfl⟩, q⟩ := h
    have hr1 : Room 1 _ := hr.mono (by decide)
    refine ⟨_, pss_one (ps_ret (pe_lc (own := [("element", 2)]) (g := gName 2) rfl sc_above.nd (pi_range1 rfl z_range (pa_cons (pv 0) pa_nil)) (blkOk_by (N := ["n", "x", "element"]) (sc := defScope s_above) (by decide +kernel))
      (fun _ _ _ _ _ => pg_name (i := 2) sc_above.nd rfl (Or.inl rfl)) (fun _ _ _ _ _ => pts_one (pt_not (pt_val (pe_rdy R_has hr1 rfl (pa_cons (pv 1) (pa_cons (pv 2) pa_nil))))))
      (fun _ _ _ _ _ => pe_op op_add (pv 1) (pe_op op_shl pe_int (pv 2))))), ?_⟩
    refine s_retL (el_is (el_lcR1 (j := 2) (n := (n : Int)) (fun e => !x.testBit e) (fun e => vN (x + 2 ^ e)) (ea_cons (ev_var rfl) ea_nil) ⟨by omega, by omega⟩ (fun _ => rfl) (fun i H1 _ hi => et_not (et_B (ev_rdy (ea_cons (ev_var rfl) (ea_cons (ev_var rfl) ea_nil)) fun _ _ => ⟨x, i, rfl, rfl⟩))) (fun i H1 _ hi hf => ?_)) ?_) q
    · refine ev_is (ev_op (ev_var rfl) (ev_is (ev_op ev_c (ev_var rfl) (rv_I (cpow_nat (a := 1) (by omega) (by decide)))) ((shl_nat 1 i).trans (by rw [Nat.one_mul]; rfl))) rv_I0) ?_
      rfl
    · unfold given aboveN
      rw [Int.toNat_natCast, List.map_map]
      rfl
/-! ### rises_at -/
abbrev s_rises_at : Stmt := topS 5
theorem sc_rises_at : FnScope ["n", "t", "x", "y"] ["n", "t", "x"] (defScope s_rises_at) := ⟨rfl, rfl, rfl, by decide +kernel, rfl, by decide +kernel, by decide +kernel⟩
def r_rises_at (_ : Hp) (vs : List V) (z : V) : Prop := ∃ n t x : Nat, n ≤ 6 ∧ vs = [vN n, vN t, vN x] ∧ z = .bl (riseAt n t x)
theorem ok_rises_at {f : Addr} {fd : FuncData} (F : Fun K "rises_at" "rises_at" s_rises_at f fd) (R_bit : Rdy P w K mg base "bit" 1 ["t", "x"] (pV r_bit)) (R_above : Rdy P w K mg base "above" 2 ["n", "x"] (pL r_above)) : FnOk P w K mg base CX0 3 f fd ["n", "t", "x"] (pV r_rises_at) := by
  refine F.ok sc_rises_at (fun vs H Q E h => ?_) (fun cdv A outer s H vs Q E hr h => ?_)
  · obtain ⟨z, ⟨n, t, x, hn, rfl, rfl⟩, _⟩ := h
    rfl
  · obtain ⟨z, ⟨n, t, x, hn, rfl, rfl⟩, q⟩ := h
    refine ⟨_, pss_one (ps_ret (pe_or (pe_cmpR op_eq (pe_rdy R_bit (hr.mono (by decide)) rfl (pa_cons (pv 1) (pa_cons (pv 2) pa_nil))) pe_int (nomark _))
      (pe_one (pe_cmpR (op_eqD hr.units) (pe_lc (own := [("y", 3)]) (g := gName 3) rfl sc_rises_at.nd (pi_list (pe_rdy R_above (hr.mono (by decide)) rfl (pa_cons (pv 0) (pa_cons (pv 2) pa_nil)))) (blkOk_by (N := ["n", "t", "x", "y"]) (sc := defScope s_rises_at) (by decide +kernel))
      (fun _ _ _ _ _ => pg_name (i := 3) sc_rises_at.nd rfl (Or.inl rfl)) (fun _ _ _ _ _ => pts_one (pt_cmpR op_eq (pe_rdy R_bit (hr.mono (by decide)) rfl (pa_cons (pv 1) (pa_cons (pv 3) pa_nil))) pe_int (nomark _)))
      (fun _ _ _ _ _ => pv 3)) (pe_lst pa_nil) (nomark _))))), ?_⟩
    refine s_ret (ev_is (ev_orV (ev_is (ev_op (ev_rdy (ea_cons (ev_var rfl) (ea_cons (ev_var rfl) ea_nil)) fun _ _ => ⟨t, x, rfl, rfl⟩) ev_c (rv_eq rfl)) (congrArg V.bl bt_zero)) (fun _ => ev_eqNil (ns := (aboveN n x).filter fun y => !t.testBit y)
      (el_is (el_lcNL (K := K) (j := 3) (fun i => !t.testBit ((aboveN n x).getD i 0)) (fun i => vN ((aboveN n x).getD i 0)) (el_rdy (xs := (aboveN n x).map vN) (ea_cons (ev_var rfl) (ea_cons (ev_var rfl) ea_nil)) fun _ _ => ⟨n, x, hn, rfl, rfl⟩)
        (by rw [List.length_map]; have := aboveN_len n x; omega) (fun _ => rfl) (fun i y H1 _ hy => by
          rw [getD_of hy]
          exact et_is (et_test (ev_op (ev_rdy (ea_cons (ev_var rfl) (ea_cons (ev_var rfl) ea_nil)) fun _ _ => ⟨t, _, rfl, rfl⟩) ev_c (rv_eq rfl))) bt_zero) (fun i y H1 _ hy _ => by
          rw [getD_of hy]
          exact ev_var rfl)) (given_nats (aboveN n x) (fun y => !t.testBit y) vN _ (List.length_map ..))))) ?_) q
    unfold riseAt
    rw [isNil_filter]
    simp only [Bool.not_not]
/-! ### next_rising -/
abbrev s_next_rising : Stmt := topS 6
theorem sc_next_rising : FnScope ["n", "t", "most", "found", "x", "y"] ["n", "t"] (defScope s_next_rising) := ⟨rfl, rfl, rfl, by decide +kernel, rfl, by decide +kernel, by decide +kernel⟩
def r_next_rising (_ : Hp) (vs : List V) (z : V) : Prop := ∃ n t : Nat, n ≤ 6 ∧ t < 2 ^ 64 ∧ vs = [vN n, vN t] ∧ z = optV (nextGo n t (2 ^ n) none)
theorem ok_next_rising {f : Addr} {fd : FuncData} (F : Fun K "next_rising" "next_rising" s_next_rising f fd) (R_size_of : Rdy P w K mg base "size_of" 1 ["n"] (pV r_size_of)) (R_bit : Rdy P w K mg base "bit" 1 ["t", "x"] (pV r_bit)) (R_above : Rdy P w K mg base "above" 2 ["n", "x"] (pL r_above)) (R_rises_at : Rdy P w K mg base "rises_at" 3 ["n", "t", "x"] (pV r_rises_at)) (z_range : mg "range" = none) : FnOk P w K mg base CX0 4 f fd ["n", "t"] (pV r_next_rising) := by
  refine F.ok sc_next_rising (fun vs H Q E h => ?_) (fun cdv A outer s H vs Q E hr h => ?_)
  · obtain ⟨z, ⟨n, t, hn, ht, rfl, rfl⟩, _⟩ := h
    rfl
  · obtain ⟨z, ⟨n, t, hn, ht, rfl, rfl⟩, q⟩ := h
    have hp := pow_le_64 hn
    have hq : 0 < 2 ^ n := Nat.two_pow_pos n
    refine ⟨_, pss_cons (ps_set (i := 2) sc_next_rising.nd rfl (.inl rfl) (pe_op op_sub (pe_rdy R_size_of (hr.mono (by decide)) rfl (pa_cons (pv 0) pa_nil)) pe_int))
      (pss_cons (ps_set (i := 3) sc_next_rising.nd rfl (.inl rfl) pe_non)
      (pss_cons (ps_for PassesOwn.never rfl (pi_range3 rfl z_range (pa_cons (pv 2) (pa_cons (pe_un un_neg pe_int) (pa_cons (pe_un un_neg pe_int) pa_nil)))) (pg_name (i := 4) sc_next_rising.nd rfl (.inl rfl))
        (pss_cons (ps_if (PW.pt (pw_and (pt_cmpR op_eq (pe_rdy R_bit (hr.mono (by decide)) rfl (pa_cons (pv 1) (pa_cons (pv 4) pa_nil))) pe_int (nomark _)) (pw_and1 (pt_cmpR (op_eqD hr.units) (pe_lc (own := [("y", 5)]) (g := gName 5) rfl sc_next_rising.nd (pi_list (pe_rdy R_above (hr.mono (by decide)) rfl (pa_cons (pv 0) (pa_cons (pv 4) pa_nil)))) (blkOk_by (N := ["n", "t", "most", "found", "x", "y"]) (sc := defScope s_next_rising) (by decide +kernel))
      (fun _ _ _ _ _ => pg_name (i := 5) sc_next_rising.nd rfl (Or.inl rfl)) (fun _ _ _ _ _ => pts_one (pt_cmpR op_eq (pe_rdy R_bit (hr.mono (by decide)) rfl (pa_cons (pv 1) (pa_cons (pv 5) pa_nil))) pe_int (nomark _)))
      (fun _ _ _ _ _ => pv 5)) (pe_lst pa_nil) (nomark _)))))
          (pss_one (ps_set (i := 3) sc_next_rising.nd rfl (.inl rfl) (pe_op op_shl (pe_op op_add (pe_op op_shr (pv 1) (pv 4)) pe_int) (pv 4)))) pss_nil)
        (pss_one (ps_if (pt_not (pt_val (pe_rdy R_rises_at (hr.mono (by decide)) rfl (pa_cons (pv 0) (pa_cons (pv 1) (pa_cons (pv 4) pa_nil)))))) (pss_one (ps_ret (pv 3))) pss_nil))))
      (pss_one (ps_ret (pv 3))))), ?_⟩
    refine q_asg (v := vN (2 ^ n - 1)) (ev_is (ev_op (ev_rdy (ea_cons (ev_var rfl) ea_nil) fun H1 _ => ⟨n, by omega, rfl, rfl⟩) ev_c rv_I0) ?_) fun H1 e1 => ?_
    · show V.int (((2 ^ n : Nat) : Int) - 1) = V.int ((2 ^ n - 1 : Nat) : Int)
      rw [Int.natCast_sub hq]
      rfl
    refine q_asg ev_c fun H2 e2 => ?_
    refine q_forR3 (lo := ((2 ^ n - 1 : Nat) : Int)) (hi := -1) (c := -1) (n := 2 ^ n) (ea_cons (ev_var rfl) (ea_cons (ev_un ev_c ru_neg) (ea_cons (ev_un ev_c ru_neg) ea_nil))) ?_
      (fun i σ' H' => ∃ (c : Option Nat) (v : Option V), σ' = [some (vN n), some (vN t), some (vN (2 ^ n - 1)), some (optV c), v, none] ∧ Ex H H' ∧ nextGo n t (2 ^ n) none = nextGo n t (2 ^ n - i) c) (fun H3 e3 => ⟨none, none, rfl, (e1.trans e2).trans e3, rfl⟩) ?_ ?_
    · have := RgC.neg (i := ((2 ^ n - 1 : Nat) : Int)) (j := -1) (by omega) (by omega) (by decide) (by decide)
      rw [show (((2 ^ n - 1 : Nat) : Int) - -1).toNat = 2 ^ n by omega] at this
      exact this
    · rintro i σ' H' hi ⟨c, v, rfl, e3, e0⟩
      obtain ⟨x, hx, hk⟩ : ∃ x : Nat, ((2 ^ n - 1 : Nat) : Int) + (i : Int) * (-1) = (x : Int) ∧ 2 ^ n - i = x + 1 := ⟨2 ^ n - 1 - i, by omega, by omega⟩
      rw [hx]
      rw [hk] at e0
      have eg : nextGo n t (x + 1) c = if riseAt n t x = true then nextGo n t x (if candAt n t x = true then some (upAt t x) else c) else (if candAt n t x = true then some (upAt t x) else c) := rfl
      rw [eg] at e0
      have hk2 : 2 ^ n - (i + 1) = x := by omega
      refine q_ifAsg (b := candAt n t x) (v := optV (if candAt n t x = true then some (upAt t x) else c)) (et_is (et_and (et_is (et_test (ev_op (ev_rdy (ea_cons (ev_var rfl) (ea_cons (ev_var rfl) ea_nil)) fun _ _ => ⟨t, x, rfl, rfl⟩) ev_c (rv_eq rfl))) bt_zero) (fun _ => et_test (ev_eqNil (ns := (aboveN n x).filter fun y => !t.testBit y)
      (el_is (el_lcNL (K := K) (j := 5) (fun i => !t.testBit ((aboveN n x).getD i 0)) (fun i => vN ((aboveN n x).getD i 0)) (el_rdy (xs := (aboveN n x).map vN) (ea_cons (ev_var rfl) (ea_cons (ev_var rfl) ea_nil)) fun _ _ => ⟨n, x, hn, rfl, rfl⟩)
        (by rw [List.length_map]; have := aboveN_len n x; omega) (fun _ => rfl) (fun i y H1 _ hy => by
          rw [getD_of hy]
          exact et_is (et_test (ev_op (ev_rdy (ea_cons (ev_var rfl) (ea_cons (ev_var rfl) ea_nil)) fun _ _ => ⟨t, _, rfl, rfl⟩) ev_c (rv_eq rfl))) bt_zero) (fun i y H1 _ hy _ => by
          rw [getD_of hy]
          exact ev_var rfl)) (given_nats (aboveN n x) (fun y => !t.testBit y) vN _ (List.length_map ..)))))) ?_) (fun hb => ?_) (fun hb => ?_) fun H4 e4 => ?_
      · unfold candAt
        rw [isNil_filter]
        simp only [Bool.not_not]
      · rw [if_pos hb]
        refine ev_is (ev_op (ev_op (ev_op (ev_var rfl) (ev_var rfl) (rv_I (Int.natCast_nonneg x))) ev_c rv_I0) (ev_var rfl) (rv_I ⟨Int.natCast_nonneg _, by omega, ?_⟩)) (up_val t x)
        have hb0 : t.testBit x = false := by
          unfold candAt at hb
          cases h : t.testBit x with
          | true => rw [h] at hb; cases hb
          | false => rfl
        have hsm := up_small ht hb0
        rw [Int.toNat_natCast]
        have e5 : (t : Int) / 2 ^ x + 1 = ((t / 2 ^ x + 1 : Nat) : Int) := by norm_cast
        rw [e5, Int.natAbs_natCast]
        exact hsm
      · rw [hb, if_neg (by decide)]
        rfl
      · refine s_when (b := !riseAt n t x) (et_not (et_B (ev_rdy (ea_cons (ev_var rfl) (ea_cons (ev_var rfl) (ea_cons (ev_var rfl) ea_nil))) fun _ _ => ⟨n, t, x, hn, rfl, rfl⟩))) (fun hb H5 e5 => ?_) (fun hb H5 e5 => ?_)
        · rw [if_neg (by rw [Bool.not_eq_true'] at hb; rw [hb]; decide)] at e0
          refine s_ret (ev_var rfl) fun H6 e6 => ?_
          rw [← e0]
          exact q H6 (((e3.trans e4).trans e5).trans e6)
        · rw [if_pos (by simpa using hb)] at e0
          refine ⟨_, some (vN x), rfl, (e3.trans e4).trans e5, ?_⟩
          rw [e0, hk2]
    · rintro σ' H' ⟨c, v, rfl, e3, e0⟩
      rw [Nat.sub_self] at e0
      refine s_ret (ev_var rfl) fun H4 e4 => ?_
      have e5 : c = nextGo n t (2 ^ n) none := e0.symm
      rw [e5]
      exact q H4 (e3.trans e4)
/-! ### is_size -/
abbrev s_is_size : Stmt := topS 12
theorem sc_is_size : FnScope ["n"] ["n"] (defScope s_is_size) := ⟨rfl, rfl, rfl, by decide +kernel, rfl, by decide +kernel, by decide +kernel⟩
def r_is_size (_ : Hp) (vs : List V) (z : V) : Prop := ∃ n : Int, vs = [.int n] ∧ z = .bl (Sv84.sizeOk n)
theorem ok_is_size {f : Addr} {fd : FuncData} (F : Fun K "is_size" "is_size" s_is_size f fd) (c_MOST_ELEMENTS : ∃ t, mg "MOST_ELEMENTS" = some (.int 6 t)) : FnOk P w K mg base CX0 1 f fd ["n"] (pV r_is_size) := by
  refine F.ok sc_is_size (fun vs H Q E h => ?_) (fun cdv A outer s H vs Q E hr h => ?_)
  · obtain ⟨z, ⟨n, rfl, rfl⟩, _⟩ := h
    rfl
  · obtain ⟨z, ⟨n, rfl, rfl⟩, q⟩ := h
    obtain ⟨t1, m1⟩ := c_MOST_ELEMENTS
    refine ⟨_, pss_one (ps_ret (pe_chain op_le op_le pe_int (pv 0) (pe_glob (v := .int 6) rfl m1 ⟨_, rfl⟩))), ?_⟩
    exact s_ret (ev_chain ev_c (ev_var rfl) rv_I0 ev_c rv_I0) q
/-! ### is_table -/
abbrev s_is_table : Stmt := topS 13
theorem sc_is_table : FnScope ["n", "t"] ["n", "t"] (defScope s_is_table) := ⟨rfl, rfl, rfl, by decide +kernel, rfl, by decide +kernel, by decide +kernel⟩
def r_is_table (_ : Hp) (vs : List V) (z : V) : Prop := ∃ (n : Nat) (t : Int), n ≤ 6 ∧ vs = [vN n, .int t] ∧ z = .bl (decide (t < ((2 ^ 2 ^ n : Nat) : Int)))
theorem ok_is_table {f : Addr} {fd : FuncData} (F : Fun K "is_table" "is_table" s_is_table f fd) (R_size_of : Rdy P w K mg base "size_of" 1 ["n"] (pV r_size_of)) : FnOk P w K mg base CX0 2 f fd ["n", "t"] (pV r_is_table) := by
  refine F.ok sc_is_table (fun vs H Q E h => ?_) (fun cdv A outer s H vs Q E hr h => ?_)
  · obtain ⟨z, ⟨n, t, hn, rfl, rfl⟩, _⟩ := h
    rfl
  · obtain ⟨z, ⟨n, t, hn, rfl, rfl⟩, q⟩ := h
    have hr1 : Room 1 _ := hr.mono (by decide)
    have hp := pow_le_64 hn
    refine ⟨_, pss_one (ps_ret (pe_cmpR op_lt (pv 1) (pe_op op_shl pe_int (pe_rdy R_size_of hr1 rfl (pa_cons (pv 0) pa_nil))) (nomark _))), ?_⟩
    refine s_ret (ev_op (ev_var rfl) (ev_is (ev_op ev_c (ev_rdy (ea_cons (ev_var rfl) ea_nil) fun H1 _ => ⟨n, by omega, rfl, rfl⟩) (rv_I (cpow_nat (a := 1) (by omega) (by decide)))) ((shl_nat 1 (2 ^ n)).trans (by rw [Nat.one_mul]; rfl))) rv_I0) q
/-! ### refusal -/
abbrev s_refusal : Stmt := topS 14
theorem sc_refusal : FnScope ["n", "t"] ["n", "t"] (defScope s_refusal) := ⟨rfl, rfl, rfl, by decide +kernel, rfl, by decide +kernel, by decide +kernel⟩
def r_refusal (_ : Hp) (vs : List V) (z : V) : Prop := ∃ n t : Int, vs = [.int n, .int t] ∧ z = .int (refus n t)
theorem ok_refusal {f : Addr} {fd : FuncData} (F : Fun K "refusal" "refusal" s_refusal f fd) (R_is_size : Rdy P w K mg base "is_size" 1 ["n"] (pV r_is_size)) (R_is_table : Rdy P w K mg base "is_table" 2 ["n", "t"] (pV r_is_table)) (c_RANGE : ∃ t, mg "RANGE" = some (.int (-2) t)) (c_NO_TABLE : ∃ t, mg "NO_TABLE" = some (.int (-3) t)) : FnOk P w K mg base CX0 3 f fd ["n", "t"] (pV r_refusal) := by
  refine F.ok sc_refusal (fun vs H Q E h => ?_) (fun cdv A outer s H vs Q E hr h => ?_)
  · obtain ⟨z, ⟨n, t, rfl, rfl⟩, _⟩ := h
    rfl
  · obtain ⟨z, ⟨n, t, rfl, rfl⟩, q⟩ := h
    obtain ⟨t1, m1⟩ := c_RANGE
    obtain ⟨t2, m2⟩ := c_NO_TABLE
    refine ⟨_, pss_cons (ps_if (pt_not (pt_val (pe_rdy R_is_size (hr.mono (by decide)) rfl (pa_cons (pv 0) pa_nil)))) (pss_one (ps_ret (pe_glob (v := .int (-2)) rfl m1 ⟨_, rfl⟩))) pss_nil)
      (pss_one (ps_ret (pe_ifExp (pt_val (pe_rdy R_is_table (hr.mono (by decide)) rfl (pa_cons (pv 0) (pa_cons (pv 1) pa_nil)))) pe_int (pe_glob (v := .int (-3)) rfl m2 ⟨_, rfl⟩)))), ?_⟩
    refine q_when (b := !Sv84.sizeOk n) (et_not (et_B (ev_rdy (ea_cons (ev_var rfl) ea_nil) fun H1 _ => ⟨n, rfl, rfl⟩))) (fun hb H1 e1 => ?_) (fun hb H1 e1 => ?_)
    · have h0 : Sv84.sizeOk n = false := by simpa using hb
      refine s_ret ev_c fun H2 e2 => ?_
      have := q H2 (e1.trans e2)
      unfold refus at this
      rw [h0] at this
      exact this
    · have h0 : Sv84.sizeOk n = true := by simpa using hb
      obtain ⟨m, rfl, hm⟩ := size_nat h0
      refine s_ret (v := .int (refus m t)) (ev_if (b := decide (t < ((2 ^ 2 ^ m : Nat) : Int))) (et_B (ev_rdy (ea_cons (ev_var rfl) (ea_cons (ev_var rfl) ea_nil)) fun H1 _ => ⟨m, t, hm, rfl, rfl⟩)) (fun hb2 => ev_is ev_c ?_) (fun hb2 => ev_is ev_c ?_)) fun H2 e2 => q H2 (e1.trans e2)
      · unfold refus
        rw [if_pos h0, Int.toNat_natCast, if_pos (of_decide_eq_true hb2)]
      · unfold refus
        rw [if_pos h0, Int.toNat_natCast, if_neg (of_decide_eq_false hb2)]
/-! ### next_one -/
abbrev s_next_one : Stmt := topS 15
theorem sc_next_one : FnScope ["n", "t", "refused", "found"] ["n", "t"] (defScope s_next_one) := ⟨rfl, rfl, rfl, by decide +kernel, rfl, by decide +kernel, by decide +kernel⟩
def t_next_one (_ : Hp) (vs : List V) (out : List Int) : Prop := ∃ n t : Int, 0 ≤ t ∧ vs = [.int n, .int t] ∧ out = PySv84.next_one n t
def nextOut : Option Nat → List Int
  | some s => [0, (s : Int)]
  | none => [-5]
theorem next_one_is {n t : Int} (ht : 0 ≤ t) : PySv84.next_one n t = if refus n t < 0 then [refus n t] else nextOut (nextGo n.toNat t.toNat (2 ^ n.toNat) none) := by
  rw [next_is, ← on_refus (n := n) ht fun _ => nextOut (Sv84Neutral.nextOf n.toNat t.toNat)]
  show Sv84Neutral.on (Sv84.sizeOk n) (Sv84.fits n.toNat t.toNat) (fun _ => match Sv84Neutral.nextOf n.toNat t.toNat with
    | some s => [0, (s : Int)]
    | none => [-5]) = _
  exact congrArg (Sv84Neutral.on _ _) (funext fun _ => by cases Sv84Neutral.nextOf n.toNat t.toNat <;> rfl)
theorem ok_next_one {f : Addr} {fd : FuncData} (F : Fun K "next_one" "next_one" s_next_one f fd) (R_refusal : Rdy P w K mg base "refusal" 3 ["n", "t"] (pV r_refusal)) (R_next_rising : Rdy P w K mg base "next_rising" 4 ["n", "t"] (pV r_next_rising)) (c_NONE : ∃ t, mg "NONE" = some (.int (-5) t)) : FnOk P w K mg base CX0 5 f fd ["n", "t"] (pT t_next_one) := by
  refine F.ok sc_next_one (fun vs H Q E h => ?_) (fun cdv A outer s H vs Q E hr h => ?_)
  · obtain ⟨out, ⟨n, t, ht, rfl, rfl⟩, _⟩ := h
    rfl
  · obtain ⟨out, ⟨n, t, ht, rfl, rfl⟩, q⟩ := h
    obtain ⟨t1, m1⟩ := c_NONE
    refine ⟨_, pss_cons (ps_set (i := 2) sc_next_one.nd rfl (.inl rfl) (pe_rdy R_refusal (hr.mono (by decide)) rfl (pa_cons (pv 0) (pa_cons (pv 1) pa_nil))))
      (pss_cons (ps_if (pt_cmpR op_lt (pv 2) pe_int (nomark _)) (pss_one (ps_ret (pe_lst (pa_cons (pv 2) pa_nil)))) pss_nil)
      (pss_cons (ps_set (i := 3) sc_next_one.nd rfl (.inl rfl) (pe_rdy R_next_rising (hr.mono (by decide)) rfl (pa_cons (pv 0) (pa_cons (pv 1) pa_nil))))
      (pss_one (ps_ret (pe_ifExp (pt_cmpR op_isN (pv 3) pe_non (nomark _)) (pe_lst (pa_cons (pe_glob (v := .int (-5)) rfl m1 ⟨_, rfl⟩) pa_nil)) (pe_lst (pa_cons pe_int (pa_cons (pv 3) pa_nil)))))))), ?_⟩
    refine q_asg (v := .int (refus n t)) (ev_rdy (ea_cons (ev_var rfl) (ea_cons (ev_var rfl) ea_nil)) fun H1 _ => ⟨n, t, rfl, rfl⟩) fun H1 e1 => ?_
    refine q_when (b := decide (refus n t < 0)) (et_test (ev_op (ev_var rfl) ev_c rv_I0)) (fun hb H2 e2 => ?_) (fun hb H2 e2 => ?_)
    · rw [next_one_is ht, if_pos (of_decide_eq_true hb)] at q
      exact s_retL (el_lst (ea_cons (ev_var rfl) ea_nil) (by show 1 ≤ 100000; decide)) fun p H3 _ _ hp => q H3 p hp
    · have hb := of_decide_eq_false hb
      rw [next_one_is ht, if_neg hb] at q
      obtain ⟨m, u, rfl, hm, rfl, hu⟩ := refus_ok hb ht
      rw [Int.toNat_natCast, Int.toNat_natCast] at q
      have hu2 : u < 2 ^ 64 := Nat.lt_of_lt_of_le hu (Nat.pow_le_pow_right (by decide) (pow_le_64 hm))
      refine q_asg (v := optV (nextGo m u (2 ^ m) none)) (ev_rdy (ea_cons (ev_var rfl) (ea_cons (ev_var rfl) ea_nil)) fun H1 _ => ⟨m, u, hm, hu2, rfl, rfl⟩) fun H3 e3 => ?_
      generalize nextGo m u (2 ^ m) none = c at q ⊢
      refine s_retL (xs := (nextOut c).map V.int) (el_if (b := decide (optV c = .non)) (et_test (ev_op (ev_var rfl) ev_c (fun H4 _ Q k => ⟨rfl, k H4 (Ex.refl H4)⟩))) (fun hc => ?_) (fun hc => ?_)) fun p H4 _ _ hp => q H4 p hp
      · cases c with
        | some s => cases of_decide_eq_true hc
        | none => exact el_lst (ea_cons ev_c ea_nil) (by show 1 ≤ 100000; decide)
      · cases c with
        | some s => exact el_lst (ea_cons ev_c (ea_cons (ev_var rfl) ea_nil)) (by show 2 ≤ 100000; decide)
        | none => exact absurd rfl (of_decide_eq_false hc)
end
theorem all_mk {P : Program} {w : World} {K : PySem.W.Frag} {h : Heap} {mg : Str → Option Value} {fa f_size_of f_bit f_has f_above f_rises_at f_next_rising f_is_size f_is_table f_refusal f_next_one : Addr} (X : K.In h) (G : h.Ns mainGlobals mg) (hfa : mg "next_one" = some (.ref fa)) {od_size_of an_size_of : Option Addr} {sl_size_of : Array (Option Value)} {oc_size_of kV_size_of dc_size_of pm_size_of cd_size_of ct_size_of : Value} {od_bit an_bit : Option Addr} {sl_bit : Array (Option Value)} {oc_bit kV_bit dc_bit pm_bit cd_bit ct_bit : Value} {od_has an_has : Option Addr} {sl_has : Array (Option Value)} {oc_has kV_has dc_has pm_has cd_has ct_has : Value} {od_above an_above : Option Addr} {sl_above : Array (Option Value)} {oc_above kV_above dc_above pm_above cd_above ct_above : Value} {od_rises_at an_rises_at : Option Addr} {sl_rises_at : Array (Option Value)} {oc_rises_at kV_rises_at dc_rises_at pm_rises_at cd_rises_at ct_rises_at : Value} {od_next_rising an_next_rising : Option Addr} {sl_next_rising : Array (Option Value)} {oc_next_rising kV_next_rising dc_next_rising pm_next_rising cd_next_rising ct_next_rising : Value} {od_is_size an_is_size : Option Addr} {sl_is_size : Array (Option Value)} {oc_is_size kV_is_size dc_is_size pm_is_size cd_is_size ct_is_size : Value} {od_is_table an_is_table : Option Addr} {sl_is_table : Array (Option Value)} {oc_is_table kV_is_table dc_is_table pm_is_table cd_is_table ct_is_table : Value} {od_refusal an_refusal : Option Addr} {sl_refusal : Array (Option Value)} {oc_refusal kV_refusal dc_refusal pm_refusal cd_refusal ct_refusal : Value} {od_next_one an_next_one : Option Addr} {sl_next_one : Array (Option Value)} {oc_next_one kV_next_one dc_next_one pm_next_one cd_next_one ct_next_one : Value} {tk_MOST_ELEMENTS : Tok} {tk_RANGE : Tok} {tk_NO_TABLE : Tok} {tk_NONE : Tok}
    (a_size_of : PySem.W.nsIn K mainGlobals "size_of" = some (some (.ref f_size_of))) (l_size_of : K.lookup f_size_of = some ⟨oc_size_of, od_size_of, .func (PySem.W.fnOf "size_of" "size_of" (defArgs s_size_of) (defBody s_size_of) (defScope s_size_of) .none kV_size_of dc_size_of pm_size_of an_size_of cd_size_of ct_size_of), sl_size_of⟩) (c_size_of : PySem.W.codeIn K cd_size_of "size_of" = true) (k_size_of : PySem.W.keepIn K (.ref f_size_of) = true)
    (a_bit : PySem.W.nsIn K mainGlobals "bit" = some (some (.ref f_bit))) (l_bit : K.lookup f_bit = some ⟨oc_bit, od_bit, .func (PySem.W.fnOf "bit" "bit" (defArgs s_bit) (defBody s_bit) (defScope s_bit) .none kV_bit dc_bit pm_bit an_bit cd_bit ct_bit), sl_bit⟩) (c_bit : PySem.W.codeIn K cd_bit "bit" = true) (k_bit : PySem.W.keepIn K (.ref f_bit) = true)
    (a_has : PySem.W.nsIn K mainGlobals "has" = some (some (.ref f_has))) (l_has : K.lookup f_has = some ⟨oc_has, od_has, .func (PySem.W.fnOf "has" "has" (defArgs s_has) (defBody s_has) (defScope s_has) .none kV_has dc_has pm_has an_has cd_has ct_has), sl_has⟩) (c_has : PySem.W.codeIn K cd_has "has" = true) (k_has : PySem.W.keepIn K (.ref f_has) = true)
    (a_above : PySem.W.nsIn K mainGlobals "above" = some (some (.ref f_above))) (l_above : K.lookup f_above = some ⟨oc_above, od_above, .func (PySem.W.fnOf "above" "above" (defArgs s_above) (defBody s_above) (defScope s_above) .none kV_above dc_above pm_above an_above cd_above ct_above), sl_above⟩) (c_above : PySem.W.codeIn K cd_above "above" = true) (k_above : PySem.W.keepIn K (.ref f_above) = true)
    (a_rises_at : PySem.W.nsIn K mainGlobals "rises_at" = some (some (.ref f_rises_at))) (l_rises_at : K.lookup f_rises_at = some ⟨oc_rises_at, od_rises_at, .func (PySem.W.fnOf "rises_at" "rises_at" (defArgs s_rises_at) (defBody s_rises_at) (defScope s_rises_at) .none kV_rises_at dc_rises_at pm_rises_at an_rises_at cd_rises_at ct_rises_at), sl_rises_at⟩) (c_rises_at : PySem.W.codeIn K cd_rises_at "rises_at" = true) (k_rises_at : PySem.W.keepIn K (.ref f_rises_at) = true)
    (a_next_rising : PySem.W.nsIn K mainGlobals "next_rising" = some (some (.ref f_next_rising))) (l_next_rising : K.lookup f_next_rising = some ⟨oc_next_rising, od_next_rising, .func (PySem.W.fnOf "next_rising" "next_rising" (defArgs s_next_rising) (defBody s_next_rising) (defScope s_next_rising) .none kV_next_rising dc_next_rising pm_next_rising an_next_rising cd_next_rising ct_next_rising), sl_next_rising⟩) (c_next_rising : PySem.W.codeIn K cd_next_rising "next_rising" = true) (k_next_rising : PySem.W.keepIn K (.ref f_next_rising) = true)
    (a_is_size : PySem.W.nsIn K mainGlobals "is_size" = some (some (.ref f_is_size))) (l_is_size : K.lookup f_is_size = some ⟨oc_is_size, od_is_size, .func (PySem.W.fnOf "is_size" "is_size" (defArgs s_is_size) (defBody s_is_size) (defScope s_is_size) .none kV_is_size dc_is_size pm_is_size an_is_size cd_is_size ct_is_size), sl_is_size⟩) (c_is_size : PySem.W.codeIn K cd_is_size "is_size" = true) (k_is_size : PySem.W.keepIn K (.ref f_is_size) = true)
    (a_is_table : PySem.W.nsIn K mainGlobals "is_table" = some (some (.ref f_is_table))) (l_is_table : K.lookup f_is_table = some ⟨oc_is_table, od_is_table, .func (PySem.W.fnOf "is_table" "is_table" (defArgs s_is_table) (defBody s_is_table) (defScope s_is_table) .none kV_is_table dc_is_table pm_is_table an_is_table cd_is_table ct_is_table), sl_is_table⟩) (c_is_table : PySem.W.codeIn K cd_is_table "is_table" = true) (k_is_table : PySem.W.keepIn K (.ref f_is_table) = true)
    (a_refusal : PySem.W.nsIn K mainGlobals "refusal" = some (some (.ref f_refusal))) (l_refusal : K.lookup f_refusal = some ⟨oc_refusal, od_refusal, .func (PySem.W.fnOf "refusal" "refusal" (defArgs s_refusal) (defBody s_refusal) (defScope s_refusal) .none kV_refusal dc_refusal pm_refusal an_refusal cd_refusal ct_refusal), sl_refusal⟩) (c_refusal : PySem.W.codeIn K cd_refusal "refusal" = true) (k_refusal : PySem.W.keepIn K (.ref f_refusal) = true)
    (a_next_one : PySem.W.nsIn K mainGlobals "next_one" = some (some (.ref f_next_one))) (l_next_one : K.lookup f_next_one = some ⟨oc_next_one, od_next_one, .func (PySem.W.fnOf "next_one" "next_one" (defArgs s_next_one) (defBody s_next_one) (defScope s_next_one) .none kV_next_one dc_next_one pm_next_one an_next_one cd_next_one ct_next_one), sl_next_one⟩) (c_next_one : PySem.W.codeIn K cd_next_one "next_one" = true) (k_next_one : PySem.W.keepIn K (.ref f_next_one) = true)
    (z_range : PySem.W.nsIn K mainGlobals "range" = some none)
    (g_MOST_ELEMENTS : PySem.W.nsIn K mainGlobals "MOST_ELEMENTS" = some (some (.int 6 tk_MOST_ELEMENTS)))
    (g_RANGE : PySem.W.nsIn K mainGlobals "RANGE" = some (some (.int (-2) tk_RANGE)))
    (g_NO_TABLE : PySem.W.nsIn K mainGlobals "NO_TABLE" = some (some (.int (-3) tk_NO_TABLE)))
    (g_NONE : PySem.W.nsIn K mainGlobals "NONE" = some (some (.int (-5) tk_NONE))) :
    ∃ fd : FuncData, (∀ (s : Shared) (us : List Value), us.length = (["n", "t"] : List Str).length → BindsTo s fd ⟨us, []⟩ ((["n", "t"] : List Str).zip us)) ∧ ∀ base : Heap, K.In base → base.Ns mainGlobals mg → FnOk P w K mg base CX0 5 fa fd ["n", "t"] (pT t_next_one) := by
  have e := hfa.symm.trans (PySem.W.mg_of X G a_next_one)
  cases e
  have F_size_of := fun_mk (st := s_size_of) l_size_of c_size_of k_size_of
  have F_bit := fun_mk (st := s_bit) l_bit c_bit k_bit
  have F_has := fun_mk (st := s_has) l_has c_has k_has
  have F_above := fun_mk (st := s_above) l_above c_above k_above
  have F_rises_at := fun_mk (st := s_rises_at) l_rises_at c_rises_at k_rises_at
  have F_next_rising := fun_mk (st := s_next_rising) l_next_rising c_next_rising k_next_rising
  have F_is_size := fun_mk (st := s_is_size) l_is_size c_is_size k_is_size
  have F_is_table := fun_mk (st := s_is_table) l_is_table c_is_table k_is_table
  have F_refusal := fun_mk (st := s_refusal) l_refusal c_refusal k_refusal
  have F_next_one := fun_mk (st := s_next_one) l_next_one c_next_one k_next_one
  have b_size_of := F_size_of.binds (ps := ["n"]) fun _ _ _ _ _ _ us hl => match us, hl with | [_], _ => rfl
  have b_bit := F_bit.binds (ps := ["t", "x"]) fun _ _ _ _ _ _ us hl => match us, hl with | [_, _], _ => rfl
  have b_has := F_has.binds (ps := ["x", "element"]) fun _ _ _ _ _ _ us hl => match us, hl with | [_, _], _ => rfl
  have b_above := F_above.binds (ps := ["n", "x"]) fun _ _ _ _ _ _ us hl => match us, hl with | [_, _], _ => rfl
  have b_rises_at := F_rises_at.binds (ps := ["n", "t", "x"]) fun _ _ _ _ _ _ us hl => match us, hl with | [_, _, _], _ => rfl
  have b_next_rising := F_next_rising.binds (ps := ["n", "t"]) fun _ _ _ _ _ _ us hl => match us, hl with | [_, _], _ => rfl
  have b_is_size := F_is_size.binds (ps := ["n"]) fun _ _ _ _ _ _ us hl => match us, hl with | [_], _ => rfl
  have b_is_table := F_is_table.binds (ps := ["n", "t"]) fun _ _ _ _ _ _ us hl => match us, hl with | [_, _], _ => rfl
  have b_refusal := F_refusal.binds (ps := ["n", "t"]) fun _ _ _ _ _ _ us hl => match us, hl with | [_, _], _ => rfl
  refine ⟨PySem.W.fnOf "next_one" "next_one" (defArgs s_next_one) (defBody s_next_one) (defScope s_next_one) .none kV_next_one dc_next_one pm_next_one an_next_one cd_next_one ct_next_one, fun s us hu => match us, hu with | [_, _], _ => .of_eq rfl, fun base _ _ => ?_⟩
  have R_size_of : Rdy P w K mg base "size_of" 1 ["n"] (pV r_size_of) := ⟨_, _, PySem.W.mg_of X G a_size_of, k_size_of, b_size_of, ok_size_of F_size_of⟩
  have R_bit : Rdy P w K mg base "bit" 1 ["t", "x"] (pV r_bit) := ⟨_, _, PySem.W.mg_of X G a_bit, k_bit, b_bit, ok_bit F_bit⟩
  have R_has : Rdy P w K mg base "has" 1 ["x", "element"] (pV r_has) := ⟨_, _, PySem.W.mg_of X G a_has, k_has, b_has, ok_has F_has⟩
  have R_above : Rdy P w K mg base "above" 2 ["n", "x"] (pL r_above) := ⟨_, _, PySem.W.mg_of X G a_above, k_above, b_above, ok_above F_above R_has (PySem.W.mg_none_of X G z_range)⟩
  have R_rises_at : Rdy P w K mg base "rises_at" 3 ["n", "t", "x"] (pV r_rises_at) := ⟨_, _, PySem.W.mg_of X G a_rises_at, k_rises_at, b_rises_at, ok_rises_at F_rises_at R_bit R_above⟩
  have R_next_rising : Rdy P w K mg base "next_rising" 4 ["n", "t"] (pV r_next_rising) := ⟨_, _, PySem.W.mg_of X G a_next_rising, k_next_rising, b_next_rising, ok_next_rising F_next_rising R_size_of R_bit R_above R_rises_at (PySem.W.mg_none_of X G z_range)⟩
  have R_is_size : Rdy P w K mg base "is_size" 1 ["n"] (pV r_is_size) := ⟨_, _, PySem.W.mg_of X G a_is_size, k_is_size, b_is_size, ok_is_size F_is_size ⟨_, PySem.W.mg_of X G g_MOST_ELEMENTS⟩⟩
  have R_is_table : Rdy P w K mg base "is_table" 2 ["n", "t"] (pV r_is_table) := ⟨_, _, PySem.W.mg_of X G a_is_table, k_is_table, b_is_table, ok_is_table F_is_table R_size_of⟩
  have R_refusal : Rdy P w K mg base "refusal" 3 ["n", "t"] (pV r_refusal) := ⟨_, _, PySem.W.mg_of X G a_refusal, k_refusal, b_refusal, ok_refusal F_refusal R_is_size R_is_table ⟨_, PySem.W.mg_of X G g_RANGE⟩ ⟨_, PySem.W.mg_of X G g_NO_TABLE⟩⟩
  exact ok_next_one F_next_one R_refusal R_next_rising ⟨_, PySem.W.mg_of X G g_NONE⟩
end RT
open PySem PySem.W PyProof.Rows
set_option maxRecDepth 100000 in
set_option maxHeartbeats 8000000 in
theorem PySem.Challenge.cw_risingtables_s05_next_one_holds : PySem.Challenge.rw_risingtables_s05_next_one.Holds := by
  w_on; k_headS; (case hw => exact ⟨[.int 0, .int 0], by decide +kernel, by decide +kernel⟩)
  k_fillS
  refine L2.walk_specK (r := PySem.Challenge.rw_risingtables_s05_next_one) (k := 5) (CX := L2.CX0) (ps := ["n", "t"]) (sp := fun K => RT.pT RT.t_next_one) (by decide +kernel) rfl rfl ⟨rfl, by decide, by decide⟩ (fun w h Y => PySem.W.kIn_of Y) ?F ?S (fun _ _ _ _ z => z)
  case F =>
    intro w mg fa h Y KX G hmg
    refine' RT.all_mk KX G hmg ?a_size_of ?l_size_of ?c_size_of ?k_size_of ?a_bit ?l_bit ?c_bit ?k_bit ?a_has ?l_has ?c_has ?k_has ?a_above ?l_above ?c_above ?k_above ?a_rises_at ?l_rises_at ?c_rises_at ?k_rises_at ?a_next_rising ?l_next_rising ?c_next_rising ?k_next_rising ?a_is_size ?l_is_size ?c_is_size ?k_is_size ?a_is_table ?l_is_table ?c_is_table ?k_is_table ?a_refusal ?l_refusal ?c_refusal ?k_refusal ?a_next_one ?l_next_one ?c_next_one ?k_next_one ?z_range ?g_MOST_ELEMENTS ?g_RANGE ?g_NO_TABLE ?g_NONE
    (case a_size_of => k_is); (case l_size_of => k_is); (case c_size_of => k_is); (case k_size_of => k_is); (case a_bit => k_is); (case l_bit => k_is); (case c_bit => k_is); (case k_bit => k_is); (case a_has => k_is); (case l_has => k_is); (case c_has => k_is); (case k_has => k_is); (case a_above => k_is); (case l_above => k_is); (case c_above => k_is); (case k_above => k_is); (case a_rises_at => k_is); (case l_rises_at => k_is); (case c_rises_at => k_is); (case k_rises_at => k_is); (case a_next_rising => k_is); (case l_next_rising => k_is); (case c_next_rising => k_is); (case k_next_rising => k_is); (case a_is_size => k_is); (case l_is_size => k_is); (case c_is_size => k_is); (case k_is_size => k_is); (case a_is_table => k_is); (case l_is_table => k_is); (case c_is_table => k_is); (case k_is_table => k_is); (case a_refusal => k_is); (case l_refusal => k_is); (case c_refusal => k_is); (case k_refusal => k_is); (case a_next_one => k_is); (case l_next_one => k_is); (case c_next_one => k_is); (case k_next_one => k_is); (case z_range => k_is); (case g_MOST_ELEMENTS => k_is); (case g_RANGE => k_is); (case g_NO_TABLE => k_is); (case g_NONE => k_is)
  case S =>
    intro K H xs a hO hwi hask hx
    cases hx with
    | cons h1 h2 =>
      cases h2 with
      | cons h2 h3 =>
        cases h3
        cases h1
        cases h2
        have q : (Sv84Neutral.int32 a.1 && Sv84Neutral.word a.2.1) = true := hask
        rw [Bool.and_eq_true] at q
        have q2 := q.2
        unfold Sv84Neutral.word at q2
        rw [Bool.and_eq_true, decide_eq_true_eq] at q2
        exact ⟨_, ⟨a.1, a.2.1, q2.1, rfl, rfl⟩, fun H' p hp => .lst (L2.SqL.of hp) (L2.dw_ints _)⟩
#print axioms PySem.Challenge.cw_risingtables_s05_next_one_holds
