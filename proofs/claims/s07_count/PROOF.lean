import PyProof.Rows.All
import Wide.All
import OpenK.AllK
import Wide.FinOn
import PyProof.EqAt
import PyProof.EqKinds
import PyProof.TupleCall
import Open.SpecLaws
import KE.OsGo
import HandS.ForSpec
import HandS.ForMost
import HandS.Evl
import PySem.Challenge.RW_risingtables_s07_count
set_option Elab.async false
set_option linter.all false
set_option maxRecDepth 100000
set_option maxHeartbeats 4000000
namespace RT
open PySem PySem.Spec PyProof.Rows L2 Evl

/-! ### values, promises, calls -/
def vN (k : Nat) : V := .int (k : Int)
/-- a def that stands at its name and keeps its promise -/
structure Rdy (P : Program) (w : World) (K : PySem.W.Frag) (mg : Str → Option Value) (base : Heap) (x : Str) (k : Nat) (ps : List Str) (sp : Sp) : Prop where
  ex : ∃ f fd, mg x = some (.ref f) ∧ PySem.W.keepIn K (.ref f) = true ∧ Binds K fd ps [] ∧ FnOk P w K mg base CX0 k f fd ps sp
theorem pe_rdy {X : Cx} {k : Nat} {x : Str} {ps : List Str} {sp : Sp} {p pos : Pos} {e : Expr} {es : List Expr} {t : TA} (R : Rdy X.prog X.w X.K X.mg X.base x k ps sp) (hr : Room k X.A) (hg : Gl X x) (ha : PA X (e :: es) t)
    (hdb : (x == ("__debug__" : Str)) = false := by decide) (he : starEach (e :: es) X.env = (false, eval e X.env) :: starEach es X.env := by rfl) (hpl : (backTo pos (starEach es X.env)).any (·.1) = false := by rfl) :
    PE X (.Call (.Name x p) (e :: es) [] pos) (tCall sp [] E0 t) := by
  obtain ⟨f, fd, hm, hk, hb, F⟩ := R.ex
  exact pe_call F hr hg hm hk hb .nil pass0 ha hdb he hpl
/-- hands back a value -/
def pV (R : Hp → List V → V → Prop) : Sp := fun vs H Q _ => ∃ z, R H vs z ∧ ∀ H', Ex H H' → Q z H'
/-- hands back a new list -/
def pL (R : Hp → List V → List V → Prop) : Sp := fun vs H Q _ => ∃ xs, R H vs xs ∧ ∀ p H', H p = none → Ex H H' → H' p = some (.lst xs) → Q (.ref p) H'
section
variable {K : PySem.W.Frag} {σ : L2.St} {H : Hp} {ta : TA} {E : XK}
theorem ev_rdy {R : Hp → List V → V → Prop} {vs : List V} {z : V} (h : EvA ta σ H vs) (hR : ∀ H1, Ex H H1 → R H1 vs z) : Ev (tCall (pV R) [] E ta) σ H z :=
  ev_call h fun H1 e Q q E => ⟨z, by rw [List.append_nil]; exact hR H1 e, q⟩
theorem el_rdy {R : Hp → List V → List V → Prop} {vs xs : List V} (h : EvA ta σ H vs) (hR : ∀ H1, Ex H H1 → R H1 vs xs) : EvL (tCall (pL R) [] E ta) σ H xs :=
  el_call h fun H1 e Q q E => ⟨xs, by rw [List.append_nil]; exact hR H1 e, q⟩
end
theorem el_is {te : TE} {σ : L2.St} {H : Hp} {xs ys : List V} (h : EvL te σ H xs) (e : xs = ys) : EvL te σ H ys := by
  rw [← e]
  exact h

/-! ### comprehensions over lists of numbers -/
theorem range_getD {α : Type} (d : α) : ∀ l : List α, (List.range l.length).map (fun i => l.getD i d) = l := by
  intro l
  apply List.ext_getElem?
  intro i
  by_cases h : i < l.length
  · simp [h]
  · simp [h, Nat.not_lt.mp h]
theorem given_nats (ys : List Nat) (p : Nat → Bool) (q : Nat → V) (n : Nat) (hn : n = ys.length) : given n (fun i => p (ys.getD i 0)) (fun i => q (ys.getD i 0)) = (ys.filter p).map q := by
  subst hn
  unfold given
  have e := range_getD 0 ys
  have e2 : ((List.range ys.length).map (fun i => ys.getD i 0)).filter p = ys.filter p := by rw [e]
  rw [List.filter_map] at e2
  rw [← e2, List.map_map]
  rfl
theorem getD_of {ys : List Nat} {i : Nat} {x : V} (h : (ys.map vN)[i]? = some x) : x = vN (ys.getD i 0) := by
  rw [List.getElem?_map] at h
  cases e : ys[i]? with
  | none => rw [e] at h; cases h
  | some y =>
    rw [e] at h
    rw [List.getD_eq_getElem?_getD, e]
    exact (Option.some.inj h).symm
theorem len_filter_le {ys : List Nat} {p : Nat → Bool} : (ys.filter p).length ≤ ys.length := List.length_filter_le p ys

/-! ### lists compared with the empty list -/
def isNil {α : Type} : List α → Bool
  | [] => true
  | _ :: _ => false
theorem isNil_map {α β : Type} (f : α → β) (l : List α) : isNil (l.map f) = isNil l := by cases l <;> rfl
theorem isNil_filter {α : Type} (p : α → Bool) (l : List α) : isNil (l.filter p) = l.all (fun x => !p x) := by
  induction l with
  | nil => rfl
  | cons a l ih =>
    rw [List.filter_cons, List.all_cons]
    cases h : p a with
    | true => rfl
    | false => exact ih
theorem lay_ints : ∀ ns : List Int, PyData.canLayAll0 (ns.map PyData.int) = true
  | [] => by simp [PyData.canLayAll0]
  | n :: r => by
    rw [List.map_cons, PyData.canLayAll0, lay_ints r, PyData.canLay0] <;> rfl
theorem depth_ints : ∀ ns : List Int, PyData.depthAll (ns.map PyData.int) ≤ 1
  | [] => by simp [PyData.depthAll]
  | n :: r => by
    have ih := depth_ints r
    rw [List.map_cons, PyData.depthAll, PyData.depth]
    omega
theorem shaped_ints (ns : List Int) : SeqAt.shaped (.list (ns.map PyData.int)) = true := by
  unfold SeqAt.shaped
  rw [Bool.and_eq_true]
  refine ⟨?_, decide_eq_true ?_⟩
  · rw [PyData.canLay0]
    exact lay_ints ns
  · have := depth_ints ns
    rw [PyData.depth]
    omega
theorem dp_ints {K : PySem.W.Frag} {H : Hp} : ∀ ns : List Int, DpAll K H (ns.map V.int) (ns.map PyData.int)
  | [] => .nil
  | n :: r => .cons (.int n) (dp_ints r)
theorem eqv_nil (ns : List Int) : PyData.eqv (.list (ns.map PyData.int)) (.list []) = isNil ns := by
  cases ns with
  | nil => decide +kernel
  | cons n r =>
    rw [List.map_cons]
    simp [PyData.eqv, PyData.eqvAll, isNil]
section
variable {K : PySem.W.Frag} {σ : L2.St} {H : Hp} {ta tb : TE}
/-- [..] == [] -/
theorem ev_eqNil {ns : List Nat} (ha : EvL ta σ H (ns.map vN)) : Ev (tOp (rEqD K) ta (tLst tNil)) σ H (.bl (isNil ns)) :=
  ev_opLL ha (el_lst ea_nil (Nat.zero_le _)) fun p q H1 hp hq _ => fun H2 e2 Q k => by
    have hm : ns.map vN = (ns.map fun (k : Nat) => (k : Int)).map V.int := by rw [List.map_map]; rfl
    rw [hm] at hp
    refine ⟨_, .list [], .lst (ex_l e2 (sq_of hp)) (dp_ints _), .lst (ex_l e2 (sq_of hq)) .nil, shaped_ints _, shaped_ints [], ?_⟩
    rw [eqv_nil, isNil_map]
    exact k H2 (Ex.refl H2)
/-- [..] != [] -/
theorem ev_neNil {ns : List Nat} (ha : EvL ta σ H (ns.map vN)) : Ev (tOp (rNeD K) ta (tLst tNil)) σ H (.bl (!isNil ns)) :=
  ev_opLL ha (el_lst ea_nil (Nat.zero_le _)) fun p q H1 hp hq _ => fun H2 e2 Q k => by
    have hm : ns.map vN = (ns.map fun (k : Nat) => (k : Int)).map V.int := by rw [List.map_map]; rfl
    rw [hm] at hp
    refine ⟨_, .list [], .lst (ex_l e2 (sq_of hp)) (dp_ints _), .lst (ex_l e2 (sq_of hq)) .nil, shaped_ints _, shaped_ints [], ?_⟩
    rw [eqv_nil, isNil_map]
    exact k H2 (Ex.refl H2)
end

/-! ### numbers -/
def bt (t x : Nat) : Nat := t / 2 ^ x % 2
theorem bt_eq (t x : Nat) : bt t x = (t.testBit x).toNat := by
  unfold bt
  rw [Nat.testBit_eq_decide_div_mod_eq]
  have h := Nat.mod_two_eq_zero_or_one (t / 2 ^ x)
  rcases h with h | h <;> rw [h] <;> rfl
theorem bt_zero {t x : Nat} : decide (vN (bt t x) = V.int 0) = !t.testBit x := by
  rw [bt_eq]
  cases t.testBit x <;> decide
theorem bt_one {t x : Nat} : decide (vN (bt t x) = V.int 1) = t.testBit x := by
  rw [bt_eq]
  cases t.testBit x <;> decide
theorem shr_nat (t x : Nat) : V.int ((t : Int) / 2 ^ (x : Int).toNat % 2) = vN (bt t x) := by
  unfold vN bt
  rw [Int.toNat_natCast]
  norm_cast
theorem shl_nat (a x : Nat) : V.int ((a : Int) * 2 ^ (x : Int).toNat) = vN (a * 2 ^ x) := by
  unfold vN
  rw [Int.toNat_natCast]
  norm_cast
theorem pow_le_64 {n : Nat} (h : n ≤ 6) : 2 ^ n ≤ 64 := Nat.pow_le_pow_right (n := 2) (by decide) h
theorem cpow_nat {a x : Nat} (hx : x ≤ 1000) (ha : a < 2 ^ 64) : CPow (a : Int) (x : Int) := ⟨Int.natCast_nonneg _, by omega, by rw [Int.natAbs_natCast]; exact ha⟩

/-! ### the tables as sums -/
def tabTo (f : Nat → Bool) (i : Nat) : Nat := ((List.range i).map fun x => if f x = true then 2 ^ x else 0).sum
theorem tabTo_succ (f : Nat → Bool) (i : Nat) : tabTo f (i + 1) = tabTo f i + if f i = true then 2 ^ i else 0 := by
  unfold tabTo
  rw [List.range_succ, List.map_append, List.sum_append]
  simp
theorem table_tabTo (n : Nat) (f : Nat → Bool) : Sv84.table n f = tabTo f (2 ^ n) := rfl
end RT
namespace RT
open PySem PySem.Spec PyProof.Rows L2 Evl
section
variable {K : PySem.W.Frag} {σ : L2.St} {H : Hp} {ta tb tc te : TE} {t : TT}
theorem ev_chain {r r' : R2} {x y z : V} {a b : Bool} (ha : Ev ta σ H x) (hb : Ev tb σ H y) (hr : RV r x y H (.bl a)) (hc : Ev tc σ H z) (hr' : RV r' y z H (.bl b)) : Ev (tChain r r' ta tb tc) σ H (.bl (a && b)) := fun H1 e Q q =>
  ha H1 e _ fun H2 e2 => hb H2 (e.trans e2) _ fun H3 e3 => hr H3 ((e.trans e2).trans e3) _ fun H4 e4 => ⟨a, rfl, by
    cases a with
    | true =>
      show tc σ H4 fun w' H5 => r' y w' H5 Q
      exact hc H4 (((e.trans e2).trans e3).trans e4) _ fun H5 e5 => hr' H5 ((((e.trans e2).trans e3).trans e4).trans e5) Q fun H6 e6 => q H6 (((((e2.trans e3).trans e4).trans e5)).trans e6)
    | false =>
      show Q (.bl false) H4
      exact q H4 ((e2.trans e3).trans e4)⟩
theorem el_if {b : Bool} {xs : List V} (h : EvT t σ H b) (h1 : b = true → EvL ta σ H xs) (h2 : b = false → EvL tb σ H xs) : EvL (tIf t ta tb) σ H xs := fun H1 e Q q => h H1 e _ fun H2 e2 => by
  cases b with
  | true =>
    show ta σ H2 Q
    exact h1 rfl H2 (e.trans e2) Q fun p H3 hp e3 h3 => q p H3 (fresh_back e2 hp) (e2.trans e3) h3
  | false =>
    show tb σ H2 Q
    exact h2 rfl H2 (e.trans e2) Q fun p H3 hp e3 h3 => q p H3 (fresh_back e2 hp) (e2.trans e3) h3
end
/-- the asked def's own promise: a list that holds the answer -/
def pT (S : Hp → List V → List Int → Prop) : Sp := fun vs H Q _ => ∃ out, S H vs out ∧ ∀ H' p, H' p = some (.lst (out.map V.int)) → Q (.ref p) H'

/-! ### refusals -/
def refus (n t : Int) : Int := if Sv84.sizeOk n = true then (if t < ((2 ^ 2 ^ n.toNat : Nat) : Int) then 0 else -3) else -2
theorem size_nat {n : Int} (h : Sv84.sizeOk n = true) : ∃ m : Nat, n = (m : Int) ∧ m ≤ 6 := by
  unfold Sv84.sizeOk Sv84.between at h
  rw [Bool.and_eq_true, decide_eq_true_eq, decide_eq_true_eq] at h
  exact ⟨n.toNat, by omega, by omega⟩
theorem refus_ok {n t : Int} (h : ¬ refus n t < 0) (ht : 0 ≤ t) : ∃ m u : Nat, n = (m : Int) ∧ m ≤ 6 ∧ t = (u : Int) ∧ u < 2 ^ 2 ^ m := by
  unfold refus at h
  by_cases h1 : Sv84.sizeOk n = true
  · rw [if_pos h1] at h
    obtain ⟨m, rfl, hm⟩ := size_nat h1
    rw [Int.toNat_natCast] at h
    by_cases h2 : t < ((2 ^ 2 ^ m : Nat) : Int)
    · exact ⟨m, t.toNat, rfl, hm, by omega, by omega⟩
    · rw [if_neg h2] at h
      exact absurd (by decide) h
  · rw [if_neg h1] at h
    exact absurd (by decide) h
theorem on_refus {n t : Int} (ht : 0 ≤ t) (x : Unit → List Int) : Sv84Neutral.on (Sv84.sizeOk n) (Sv84.fits n.toNat t.toNat) x = if refus n t < 0 then [refus n t] else x () := by
  unfold Sv84Neutral.on refus Sv84.fits
  cases h1 : Sv84.sizeOk n with
  | false => rfl
  | true =>
    rw [if_neg (by decide), if_pos rfl]
    generalize (2 ^ 2 ^ n.toNat : Nat) = N
    by_cases h2 : t < (N : Int)
    · rw [if_pos h2, decide_eq_true (show t.toNat < N by omega), if_neg (by decide), if_neg (by decide)]
    · rw [if_neg h2, decide_eq_false (show ¬ t.toNat < N by omega), if_pos rfl, if_pos (by decide)]
end RT
namespace RT
open PySem PySem.Spec PyProof.Rows L2 Evl
/-! ### the neighbours of a set -/
def aboveN (n x : Nat) : List Nat := ((List.range n).filter fun e => !x.testBit e).map fun e => x + 2 ^ e
def belowN (n x : Nat) : List Nat := ((List.range n).filter fun e => x.testBit e).map fun e => x - 2 ^ e
theorem aboveN_len (n x : Nat) : (aboveN n x).length ≤ n := by
  unfold aboveN
  rw [List.length_map]
  have h := List.length_filter_le (fun e => !x.testBit e) (List.range n)
  rw [List.length_range] at h
  exact h
theorem belowN_len (n x : Nat) : (belowN n x).length ≤ n := by
  unfold belowN
  rw [List.length_map]
  have h := List.length_filter_le (fun e => x.testBit e) (List.range n)
  rw [List.length_range] at h
  exact h
theorem all_filter {α : Type} (p q : α → Bool) (l : List α) : (l.filter p).all q = l.all fun x => !p x || q x := by
  induction l with
  | nil => rfl
  | cons a l ih =>
    rw [List.filter_cons, List.all_cons]
    cases h : p a with
    | true => rw [if_pos rfl, List.all_cons, ih] <;> rfl
    | false => rw [if_neg (by decide), ih] <;> rfl
theorem all_map {α β : Type} (f : α → β) (q : β → Bool) (l : List α) : (l.map f).all q = l.all fun x => q (f x) := by
  induction l with
  | nil => rfl
  | cons a l ih => rw [List.map_cons, List.all_cons, List.all_cons, ih]
theorem all_or {α : Type} (b : Bool) (q : α → Bool) (l : List α) (h : b = false ∨ l ≠ [] ∨ True) : (l.all fun x => b || q x) = (b || l.all q) := by
  cases b with
  | true => simp
  | false => simp
theorem all_congr {α : Type} {p q : α → Bool} {l : List α} (h : ∀ x ∈ l, p x = q x) : l.all p = l.all q := by
  induction l with
  | nil => rfl
  | cons a l ih => rw [List.all_cons, List.all_cons, h a (List.mem_cons_self ..), ih fun x hx => h x (List.mem_cons_of_mem _ hx)]
def riseAt (n t x : Nat) : Bool := !t.testBit x || (aboveN n x).all fun y => t.testBit y
def isRis (n t : Nat) : Bool := (List.range (2 ^ n)).all fun x => riseAt n t x
theorem isRis_is (n t : Nat) : isRis n t = Sv84.rises n t := by
  unfold isRis Sv84.rises Sv84.sets Sv84.gives
  refine all_congr fun x _ => ?_
  unfold riseAt aboveN
  rw [all_map, all_filter, all_or _ _ _ (.inr (.inr trivial))]
  congr 1
  refine all_congr fun e _ => ?_
  rw [Bool.not_not]
def leastAt (n t x : Nat) : Bool := t.testBit x && (belowN n x).all fun y => !t.testBit y
def leastTo (n t i : Nat) : List Nat := (List.range i).filter fun x => leastAt n t x
theorem leastTo_is (n t : Nat) : leastTo n t (2 ^ n) = Sv84.least n t := by
  unfold leastTo Sv84.least Sv84.sets Sv84.gives
  refine List.filter_congr fun x _ => ?_
  unfold leastAt belowN
  rw [all_map, all_filter]
theorem leastTo_len (n t i : Nat) : (leastTo n t i).length ≤ i := by
  unfold leastTo
  have h := List.length_filter_le (fun x => leastAt n t x) (List.range i)
  rw [List.length_range] at h
  exact h
theorem leastTo_yes {n t i : Nat} (h : leastAt n t i = true) : leastTo n t (i + 1) = leastTo n t i ++ [i] := by
  unfold leastTo
  rw [List.range_succ, List.filter_append, List.filter_cons, if_pos h] <;> rfl
theorem leastTo_no {n t i : Nat} (h : leastAt n t i = false) : leastTo n t (i + 1) = leastTo n t i := by
  unfold leastTo
  rw [List.range_succ, List.filter_append, List.filter_cons, if_neg (by rw [h]; decide), List.filter_nil, List.append_nil]
theorem pow_le_of_bit {x e : Nat} (h : x.testBit e = true) : 2 ^ e ≤ x := by
  apply Nat.le_of_not_lt
  intro hlt
  rw [Nat.testBit_lt_two_pow hlt] at h
  cases h
theorem bitAnd_nat (a b : Nat) : Builtin.bitAnd (a : Int) (b : Int) = ((a &&& b : Nat) : Int) := by
  unfold Builtin.bitAnd
  rw [decide_eq_true (Int.natCast_nonneg a), decide_eq_true (Int.natCast_nonneg b)]
  rfl
theorem bitOr_nat (a b : Nat) : Builtin.bitOr (a : Int) (b : Int) = ((a ||| b : Nat) : Int) := by
  have h1 : ∀ c : Nat, Builtin.bitNot (Builtin.bitNot (c : Int)) = (c : Int) := fun c => by
    unfold Builtin.bitNot
    omega
  have h2 : ∀ c : Nat, ¬ 0 ≤ Builtin.bitNot (c : Int) := fun c => by
    unfold Builtin.bitNot
    omega
  unfold Builtin.bitOr Builtin.bitAnd
  rw [decide_eq_false (h2 a), decide_eq_false (h2 b)]
  show Builtin.bitNot (Builtin.bitNot (((Builtin.bitNot (Builtin.bitNot (a : Int))).toNat ||| (Builtin.bitNot (Builtin.bitNot (b : Int))).toNat : Nat) : Int)) = _
  rw [h1 a, h1 b, h1, Int.toNat_natCast, Int.toNat_natCast]
theorem vN_eq (a b : Nat) : decide (vN a = vN b) = (a == b) := by
  by_cases h : a = b
  · subst h
    rw [decide_eq_true rfl, beq_self_eq_true]
  · rw [decide_eq_false (show ¬ vN a = vN b from fun e => h (Int.ofNat_inj.mp (V.int.inj e)))]
    exact (beq_eq_false_iff_ne.mpr h).symm
theorem sum_cast : ∀ ns : List Nat, (ns.map fun (k : Nat) => (k : Int)).sum = ((ns.sum : Nat) : Int)
  | [] => rfl
  | n :: r => by
    rw [List.map_cons, List.sum_cons, List.sum_cons, sum_cast r, Int.natCast_add]
theorem map_vN (ns : List Nat) : ns.map vN = (ns.map fun (k : Nat) => (k : Int)).map V.int := by
  rw [List.map_map]
  rfl
section
variable {K : PySem.W.Frag} {σ : L2.St} {H : Hp} {ta tb tc te : TE} {t : TT}
theorem ev_sumN {ns : List Nat} (ha : EvL ta σ H (ns.map vN)) : Ev (tCB (rSum K) (tCons ta tNil)) σ H (vN ns.sum) := fun H1 e Q q =>
  ha H1 e _ fun p H2 _ e2 h2 => ⟨p, ns.map fun (k : Nat) => (k : Int), rfl, sq_of (by rw [h2, map_vN]), by rw [sum_cast]; exact q H2 e2⟩
/-- [..] + xs -/
theorem el_cat {b : Addr} {xs zs : List V} (ha : EvL ta σ H xs) (hb : Ev tb σ H (.ref b)) (hz : H b = some (.lst zs)) (hl : xs.length + zs.length ≤ 100000) : EvL (tOp rCat ta tb) σ H (xs ++ zs) := fun H1 e Q q =>
  ha H1 e _ fun p H2 hp e2 h2 => hb H2 (e.trans e2) _ fun H3 e3 => ⟨p, b, xs, zs, rfl, rfl, e3 p _ h2, ((e.trans e2).trans e3) b _ hz, sz_of hl, fun r hr => q r _ (fresh_back (e2.trans e3) hr) ((e2.trans e3).trans (Ex.new hr)) upd_same⟩
end
end RT
namespace RT
open PySem PySem.Spec PyProof.Rows L2 Evl
section
variable {X : Cx} {p pos : Pos} {e : Expr} {es : List Expr} {t : TA}
theorem pe_sum {K : PySem.W.Frag} (hK : X.K = K) (hc : X.calm = true) (hg : Gl X "sum") (hm : X.mg "sum" = none) (ha : PA X (e :: es) t)
    (he : starEach (e :: es) X.env = (false, eval e X.env) :: starEach es X.env := by rfl) (hpl : (backTo pos (starEach es X.env)).any (·.1) = false := by rfl) : PE X (.Call (.Name "sum" p) (e :: es) [] pos) (tCB (rSum K) t) := by
  subst hK
  exact pe_callB (cr_sum hc) hg hm (by decide +kernel) ha (by decide) (by decide) he hpl
theorem pe_min {K : PySem.W.Frag} (hK : X.K = K) (hc : X.calm = true) (hg : Gl X "min") (hm : X.mg "min" = none) (ha : PA X (e :: es) t)
    (he : starEach (e :: es) X.env = (false, eval e X.env) :: starEach es X.env := by rfl) (hpl : (backTo pos (starEach es X.env)).any (·.1) = false := by rfl) : PE X (.Call (.Name "min" p) (e :: es) [] pos) (tCB (rMin K) t) := by
  subst hK
  exact pe_callB (cr_min hc) hg hm (by decide +kernel) ha (by decide) (by decide) he hpl
end
end RT
namespace RT
open PySem PySem.Spec PyProof.Rows L2 Evl
theorem op_notInK {X : Cx} {K : PySem.W.Frag} (hK : X.K = K) : OpR X (compareOp .NotIn) (rIn K true) := by
  subst hK
  exact op_notIn_seq
theorem and_test (a b : Nat) : decide (V.int (Builtin.bitAnd (a : Int) (b : Int)) = vN a) = (a &&& b == a) := by
  rw [bitAnd_nat]
  exact vN_eq _ _
theorem nat_at {ys : List Nat} {i : Nat} {x : V} (h : (ys.map vN)[i]? = some x) : ∃ y, ys[i]? = some y ∧ x = vN y := by
  rw [List.getElem?_map] at h
  cases e : ys[i]? with
  | none => rw [e] at h; cases h
  | some y =>
    rw [e] at h
    exact ⟨y, rfl, (Option.some.inj h).symm⟩
theorem tabTo_lt (f : Nat → Bool) : ∀ i : Nat, tabTo f i < 2 ^ i
  | 0 => Nat.zero_lt_one
  | i + 1 => by
    have h := tabTo_lt f i
    rw [tabTo_succ, Nat.pow_succ]
    split <;> omega
end RT
namespace RT
open PySem PySem.Spec PyProof.Rows L2 Evl
/-! ### count: the plain law -/
def rt : Nat → List Nat
  | 0 => [0, 1]
  | k + 1 => (rt k).flatMap fun low => ((rt k).filter fun high => low &&& high == low).map fun high => low + high * 2 ^ 2 ^ k
/-- it rises -/
def Up (n t : Nat) : Prop := ∀ x i : Nat, x < 2 ^ n → i < n → t.testBit x = true → x.testBit i = false → t.testBit (x + 2 ^ i) = true
theorem rises_iff (n t : Nat) : Sv84.rises n t = true ↔ Up n t := by
  unfold Sv84.rises Sv84.sets Sv84.gives Up
  rw [List.all_eq_true]
  refine ⟨fun h x i hx hi h1 h2 => ?_, fun h x hx => List.all_eq_true.mpr fun i hi => ?_⟩
  · have := List.all_eq_true.mp (h x (List.mem_range.mpr hx)) i (List.mem_range.mpr hi)
    rw [h1, h2] at this
    exact this
  · cases h1 : t.testBit x with
    | false => rfl
    | true =>
      cases h2 : x.testBit i with
      | true => rfl
      | false =>
        rw [h x i (List.mem_range.mp hx) (List.mem_range.mp hi) h1 h2]
        rfl
theorem add_lt {n x i : Nat} (hx : x < 2 ^ n) (hi : i < n) (h : x.testBit i = false) : x + 2 ^ i < 2 ^ n := by
  rw [Nat.testBit_eq_decide_div_mod_eq] at h
  have h2 := of_decide_eq_false h
  obtain ⟨d, rfl⟩ : ∃ d, n = i + (d + 1) := ⟨n - i - 1, by omega⟩
  have e1 : 2 ^ (i + (d + 1)) = 2 * (2 ^ d * 2 ^ i) := by
    rw [Nat.pow_add, Nat.pow_succ, Nat.mul_comm (2 ^ d) 2, ← Nat.mul_assoc, Nat.mul_comm (2 ^ i) 2, Nat.mul_assoc, Nat.mul_comm (2 ^ i) (2 ^ d)]
  rw [e1] at hx ⊢
  have hP := Nat.two_pow_pos i
  have e2 := Nat.div_add_mod x (2 ^ i)
  have hr := Nat.mod_lt x hP
  have e3 : x / 2 ^ i = 2 * (x / 2 ^ i / 2) := by omega
  rw [e3] at e2
  generalize x / 2 ^ i / 2 = q at e2
  generalize x % 2 ^ i = r at e2 hr
  generalize 2 ^ i = P at e2 hr hP hx ⊢
  generalize 2 ^ d = N at hx ⊢
  have e4 : P * (2 * q) = 2 * (q * P) := by rw [Nat.mul_comm P, Nat.mul_assoc]
  rw [e4] at e2
  have hq : q < N := by
    apply Nat.lt_of_not_le
    intro hle
    have := Nat.mul_le_mul_right P hle
    omega
  have h5 := Nat.mul_le_mul_right P (Nat.succ_le_of_lt hq)
  rw [Nat.succ_mul] at h5
  omega
theorem half_bit {m low high : Nat} (h : low < 2 ^ m) (x : Nat) : (low + high * 2 ^ m).testBit x = if x < m then low.testBit x else high.testBit (x - m) := by
  rw [Nat.add_comm, Nat.mul_comm]
  exact Nat.testBit_two_pow_mul_add high h x
theorem bit_lt {m low x : Nat} (h : low < 2 ^ m) (hb : low.testBit x = true) : x < m := by
  apply Nat.lt_of_not_le
  intro hle
  rw [Nat.testBit_lt_two_pow (Nat.lt_of_lt_of_le h (Nat.pow_le_pow_right (by decide) hle))] at hb
  cases hb
theorem within_iff (a b : Nat) : a &&& b = a ↔ ∀ x, a.testBit x = true → b.testBit x = true := by
  refine ⟨fun h x hx => ?_, fun h => Nat.eq_of_testBit_eq fun x => ?_⟩
  · rw [← h, Nat.testBit_and, Bool.and_eq_true] at hx
    exact hx.2
  · rw [Nat.testBit_and]
    cases e : a.testBit x with
    | false => rfl
    | true => rw [h x e]; rfl
theorem up_join {n low high : Nat} (hl : low < 2 ^ 2 ^ n) (u1 : Up n low) (u2 : Up n high) (hw : low &&& high = low) : Up (n + 1) (low + high * 2 ^ 2 ^ n) := by
  intro x i hx hi h1 h2
  have hw := (within_iff low high).mp hw
  rw [half_bit hl] at h1 ⊢
  have e2 : 2 ^ (n + 1) = 2 ^ n + 2 ^ n := by rw [Nat.pow_succ]; omega
  by_cases hx2 : x < 2 ^ n
  · rw [if_pos hx2] at h1
    by_cases hi2 : i < n
    · have := add_lt hx2 hi2 h2
      rw [if_pos this]
      exact u1 x i hx2 hi2 h1 h2
    · have hi3 : i = n := by omega
      subst hi3
      rw [if_neg (by omega), Nat.add_sub_cancel]
      exact hw x h1
  · rw [if_neg hx2] at h1
    obtain ⟨y, rfl⟩ : ∃ y, x = 2 ^ n + y := ⟨x - 2 ^ n, by omega⟩
    rw [Nat.add_sub_cancel_left] at h1
    have hy : y < 2 ^ n := by omega
    by_cases hi2 : i < n
    · rw [Nat.testBit_two_pow_add_gt hi2] at h2
      have hp := Nat.two_pow_pos i
      rw [if_neg (by omega), Nat.add_assoc, Nat.add_sub_cancel_left]
      exact u2 y i hy hi2 h1 h2
    · have hi3 : i = n := by omega
      subst hi3
      rw [Nat.testBit_two_pow_add_eq, Nat.testBit_lt_two_pow hy] at h2
      cases h2
theorem up_split {n low high : Nat} (hl : low < 2 ^ 2 ^ n) (u : Up (n + 1) (low + high * 2 ^ 2 ^ n)) : Up n low ∧ (high < 2 ^ 2 ^ n → Up n high) ∧ low &&& high = low := by
  have e2 : 2 ^ (n + 1) = 2 ^ n + 2 ^ n := by rw [Nat.pow_succ]; omega
  refine ⟨fun x i hx hi h1 h2 => ?_, fun hh x i hx hi h1 h2 => ?_, (within_iff _ _).mpr fun x h1 => ?_⟩
  · have := u x i (by omega) (by omega) (by rw [half_bit hl, if_pos hx]; exact h1) h2
    rw [half_bit hl, if_pos (add_lt hx hi h2)] at this
    exact this
  · have := u (2 ^ n + x) i (by omega) (by omega) (by rw [half_bit hl, if_neg (by omega), Nat.add_sub_cancel_left]; exact h1) (by rw [Nat.testBit_two_pow_add_gt hi]; exact h2)
    have hp := Nat.two_pow_pos i
    rw [half_bit hl, if_neg (by omega), Nat.add_assoc, Nat.add_sub_cancel_left] at this
    exact this
  · have hx := bit_lt hl h1
    have := u x n (by omega) (by omega) (by rw [half_bit hl, if_pos hx]; exact h1) (Nat.testBit_lt_two_pow hx)
    rw [half_bit hl, if_neg (by omega), Nat.add_sub_cancel] at this
    exact this
theorem sq_pow (n : Nat) : 2 ^ 2 ^ (n + 1) = 2 ^ 2 ^ n * 2 ^ 2 ^ n := by
  rw [← Nat.pow_add, Nat.pow_succ]
  congr 1
  omega
theorem mem_rt : ∀ n t : Nat, t ∈ rt n ↔ t < 2 ^ 2 ^ n ∧ Up n t
  | 0, t => by
    refine ⟨fun h => ⟨?_, fun x i _ hi => absurd hi (Nat.not_lt_zero i)⟩, fun h => ?_⟩
    · have : t = 0 ∨ t = 1 := by simpa [rt] using h
      show t < 2
      omega
    · have h1 : t < 2 := h.1
      have : t = 0 ∨ t = 1 := by omega
      simpa [rt] using this
  | n + 1, t => by
    have hM := Nat.two_pow_pos (2 ^ n)
    rw [sq_pow]
    refine ⟨fun h => ?_, fun ⟨h1, h2⟩ => ?_⟩
    · obtain ⟨low, hl, h⟩ := List.mem_flatMap.mp h
      obtain ⟨high, hh, rfl⟩ := List.mem_map.mp h
      obtain ⟨hh1, hh2⟩ := List.mem_filter.mp hh
      obtain ⟨l1, l2⟩ := (mem_rt n low).mp hl
      obtain ⟨g1, g2⟩ := (mem_rt n high).mp hh1
      refine ⟨?_, up_join l1 l2 g2 (eq_of_beq hh2)⟩
      have := Nat.mul_le_mul_right (2 ^ 2 ^ n) (Nat.succ_le_of_lt g1)
      rw [Nat.succ_mul] at this
      omega
    · have l1 := Nat.mod_lt t hM
      have g1 : t / 2 ^ 2 ^ n < 2 ^ 2 ^ n := Nat.div_lt_of_lt_mul h1
      have e : t = t % 2 ^ 2 ^ n + t / 2 ^ 2 ^ n * 2 ^ 2 ^ n := by
        have := Nat.div_add_mod t (2 ^ 2 ^ n)
        rw [Nat.mul_comm] at this
        omega
      rw [e] at h2
      obtain ⟨u1, u2, u3⟩ := up_split l1 h2
      refine List.mem_flatMap.mpr ⟨_, (mem_rt n _).mpr ⟨l1, u1⟩, List.mem_map.mpr ⟨_, List.mem_filter.mpr ⟨(mem_rt n _).mpr ⟨g1, u2 g1⟩, ?_⟩, e.symm⟩⟩
      rw [u3, beq_self_eq_true]
theorem rt_and {n a b : Nat} (ha : a ∈ rt n) (hb : b ∈ rt n) : a &&& b ∈ rt n := by
  obtain ⟨a1, a2⟩ := (mem_rt n a).mp ha
  obtain ⟨b1, b2⟩ := (mem_rt n b).mp hb
  refine (mem_rt n _).mpr ⟨Nat.and_lt_two_pow a b1, fun x i hx hi h1 h2 => ?_⟩
  rw [Nat.testBit_and, Bool.and_eq_true] at h1 ⊢
  exact ⟨a2 x i hx hi h1.1 h2, b2 x i hx hi h1.2 h2⟩
theorem rt_or {n a b : Nat} (ha : a ∈ rt n) (hb : b ∈ rt n) : a ||| b ∈ rt n := by
  obtain ⟨a1, a2⟩ := (mem_rt n a).mp ha
  obtain ⟨b1, b2⟩ := (mem_rt n b).mp hb
  refine (mem_rt n _).mpr ⟨Nat.or_lt_two_pow a1 b1, fun x i hx hi h1 h2 => ?_⟩
  rw [Nat.testBit_or, Bool.or_eq_true] at h1 ⊢
  rcases h1 with h1 | h1
  · exact .inl (a2 x i hx hi h1 h2)
  · exact .inr (b2 x i hx hi h1 h2)
theorem filter_len {N : Nat} {p : Nat → Bool} {L : List Nat} (hL : L.Nodup) (h : ∀ t, t ∈ L ↔ t < N ∧ p t = true) : ((List.range N).filter p).length = L.length := by
  refine List.Perm.length_eq ((List.perm_ext_iff_of_nodup (List.Pairwise.filter _ List.nodup_range) hL).mpr fun t => ?_)
  rw [List.mem_filter, List.mem_range]
  exact (h t).symm
/-! ### the numbers -/
inductive Tr where
  | nil
  | node (k v : Nat) (l r : Tr)
def Tr.get : Tr → Nat → Nat
  | .nil, _ => 0
  | .node k v l r, x => cond (Nat.beq x k) v (cond (Nat.ble x k) (l.get x) (r.get x))
def L4 : List Nat := [0, 32768, 49152, 40960, 57344, 61440, 34816, 51200, 43008, 59392, 63488, 52224, 60416, 64512, 43520, 59904, 64000, 60928, 65024, 65280, 32896, 49280, 41088, 57472, 61568, 34944, 51328, 43136, 59520, 63616, 52352, 60544, 64640, 43648, 60032, 64128, 61056, 65152, 65408, 49344, 57536, 61632, 51392, 59584, 63680, 52416, 60608, 64704, 60096, 64192, 61120, 65216, 65472, 41120, 57504, 61600, 43168, 59552, 63648, 60576, 64672, 43680, 60064, 64160, 61088, 65184, 65440, 57568, 61664, 59616, 63712, 60640, 64736, 60128, 64224, 61152, 65248, 65504, 61680, 63728, 64752, 64240, 65264, 65520, 34952, 51336, 43144, 59528, 63624, 52360, 60552, 64648, 43656, 60040, 64136, 61064, 65160, 65416, 51400, 59592, 63688, 52424, 60616, 64712, 60104, 64200, 61128, 65224, 65480, 43176, 59560, 63656, 60584, 64680, 43688, 60072, 64168, 61096, 65192, 65448, 59624, 63720, 60648, 64744, 60136, 64232, 61160, 65256, 65512, 63736, 64760, 64248, 65272, 65528, 52428, 60620, 64716, 61132, 65228, 65484, 60652, 64748, 61164, 65260, 65516, 64764, 65276, 65532, 43690, 60074, 64170, 61098, 65194, 65450, 60138, 64234, 61162, 65258, 65514, 64250, 65274, 65530, 61166, 65262, 65518, 65278, 65534, 65535]
def treeW : Tr := (.node 61440 6 (.node 59552 21 (.node 49280 5 (.node 43136 9 (.node 34952 6 (.node 32896 3 (.node 32768 2 (.node 0 1 .nil .nil) .nil) (.node 34944 5 (.node 34816 3 .nil .nil) .nil)) (.node 41120 6 (.node 41088 5 (.node 40960 3 .nil .nil) .nil) (.node 43008 5 .nil .nil))) (.node 43656 14 (.node 43176 14 (.node 43168 11 (.node 43144 11 .nil .nil) .nil) (.node 43648 11 (.node 43520 6 .nil .nil) .nil)) (.node 43690 20 (.node 43688 19 (.node 43680 14 .nil .nil) .nil) (.node 49152 3 .nil .nil)))) (.node 52424 19 (.node 51400 14 (.node 51328 9 (.node 51200 5 (.node 49344 6 .nil .nil) .nil) (.node 51392 11 (.node 51336 11 .nil .nil) .nil)) (.node 52360 14 (.node 52352 11 (.node 52224 6 .nil .nil) .nil) (.node 52416 14 .nil .nil))) (.node 57536 11 (.node 57472 9 (.node 57344 5 (.node 52428 20 .nil .nil) .nil) (.node 57504 11 .nil .nil)) (.node 59520 17 (.node 59392 9 (.node 57568 14 .nil .nil) .nil) (.node 59528 21 .nil .nil))))) (.node 60584 35 (.node 60074 39 (.node 59904 11 (.node 59592 27 (.node 59584 21 (.node 59560 27 .nil .nil) .nil) (.node 59624 36 (.node 59616 27 .nil .nil) .nil)) (.node 60064 27 (.node 60040 27 (.node 60032 21 .nil .nil) .nil) (.node 60072 37 .nil .nil))) (.node 60138 53 (.node 60128 35 (.node 60104 35 (.node 60096 26 .nil .nil) .nil) (.node 60136 50 .nil .nil)) (.node 60552 27 (.node 60544 21 (.node 60416 11 .nil .nil) .nil) (.node 60576 26 .nil .nil)))) (.node 61096 50 (.node 60652 53 (.node 60620 39 (.node 60616 37 (.node 60608 27 .nil .nil) .nil) (.node 60648 50 (.node 60640 35 .nil .nil) .nil)) (.node 61064 36 (.node 61056 27 (.node 60928 14 .nil .nil) .nil) (.node 61088 35 .nil .nil))) (.node 61152 48 (.node 61128 50 (.node 61120 35 (.node 61098 53 .nil .nil) .nil) (.node 61132 53 .nil .nil)) (.node 61164 78 (.node 61162 78 (.node 61160 73 .nil .nil) .nil) (.node 61166 84 .nil .nil)))))) (.node 64752 53 (.node 64168 50 (.node 63680 27 (.node 63488 11 (.node 61632 14 (.node 61600 14 (.node 61568 11 .nil .nil) .nil) (.node 61680 20 (.node 61664 19 .nil .nil) .nil)) (.node 63648 27 (.node 63624 26 (.node 63616 21 .nil .nil) .nil) (.node 63656 35 .nil .nil))) (.node 63736 53 (.node 63720 50 (.node 63712 37 (.node 63688 35 .nil .nil) .nil) (.node 63728 39 .nil .nil)) (.node 64136 35 (.node 64128 27 (.node 64000 14 .nil .nil) .nil) (.node 64160 36 .nil .nil)))) (.node 64640 27 (.node 64234 78 (.node 64200 48 (.node 64192 35 (.node 64170 53 .nil .nil) .nil) (.node 64232 73 (.node 64224 50 .nil .nil) .nil)) (.node 64250 84 (.node 64248 78 (.node 64240 53 .nil .nil) .nil) (.node 64512 14 .nil .nil))) (.node 64712 50 (.node 64680 48 (.node 64672 35 (.node 64648 35 .nil .nil) .nil) (.node 64704 36 .nil .nil)) (.node 64744 73 (.node 64736 50 (.node 64716 53 .nil .nil) .nil) (.node 64748 78 .nil .nil))))) (.node 65278 148 (.node 65228 78 (.node 65184 50 (.node 65024 19 (.node 64764 84 (.node 64760 78 .nil .nil) .nil) (.node 65160 50 (.node 65152 37 .nil .nil) .nil)) (.node 65216 50 (.node 65194 78 (.node 65192 73 .nil .nil) .nil) (.node 65224 73 .nil .nil))) (.node 65262 134 (.node 65258 123 (.node 65256 114 (.node 65248 73 .nil .nil) .nil) (.node 65260 123 .nil .nil)) (.node 65274 134 (.node 65272 123 (.node 65264 78 .nil .nil) .nil) (.node 65276 134 .nil .nil)))) (.node 65512 123 (.node 65450 84 (.node 65416 53 (.node 65408 39 (.node 65280 20 .nil .nil) .nil) (.node 65448 78 (.node 65440 53 .nil .nil) .nil)) (.node 65484 84 (.node 65480 78 (.node 65472 53 .nil .nil) .nil) (.node 65504 78 .nil .nil))) (.node 65528 134 (.node 65518 148 (.node 65516 134 (.node 65514 134 .nil .nil) .nil) (.node 65520 84 .nil .nil)) (.node 65534 167 (.node 65532 148 (.node 65530 148 .nil .nil) .nil) (.node 65535 168 .nil .nil)))))))
def treeA : Tr := (.node 61440 84 (.node 59552 73 (.node 49280 134 (.node 43136 123 (.node 34952 84 (.node 32896 148 (.node 32768 167 (.node 0 168 .nil .nil) .nil) (.node 34944 134 (.node 34816 148 .nil .nil) .nil)) (.node 41120 84 (.node 41088 134 (.node 40960 148 .nil .nil) .nil) (.node 43008 134 .nil .nil))) (.node 43656 53 (.node 43176 53 (.node 43168 78 (.node 43144 78 .nil .nil) .nil) (.node 43648 78 (.node 43520 84 .nil .nil) .nil)) (.node 43690 20 (.node 43688 39 (.node 43680 53 .nil .nil) .nil) (.node 49152 148 .nil .nil)))) (.node 52424 39 (.node 51400 53 (.node 51328 123 (.node 51200 134 (.node 49344 84 .nil .nil) .nil) (.node 51392 78 (.node 51336 78 .nil .nil) .nil)) (.node 52360 53 (.node 52352 78 (.node 52224 84 .nil .nil) .nil) (.node 52416 53 .nil .nil))) (.node 57536 78 (.node 57472 123 (.node 57344 134 (.node 52428 20 .nil .nil) .nil) (.node 57504 78 .nil .nil)) (.node 59520 114 (.node 59392 123 (.node 57568 53 .nil .nil) .nil) (.node 59528 73 .nil .nil))))) (.node 60584 35 (.node 60074 19 (.node 59904 78 (.node 59592 50 (.node 59584 73 (.node 59560 50 .nil .nil) .nil) (.node 59624 36 (.node 59616 50 .nil .nil) .nil)) (.node 60064 50 (.node 60040 50 (.node 60032 73 .nil .nil) .nil) (.node 60072 37 .nil .nil))) (.node 60138 14 (.node 60128 35 (.node 60104 35 (.node 60096 48 .nil .nil) .nil) (.node 60136 27 .nil .nil)) (.node 60552 50 (.node 60544 73 (.node 60416 78 .nil .nil) .nil) (.node 60576 48 .nil .nil)))) (.node 61096 27 (.node 60652 14 (.node 60620 19 (.node 60616 37 (.node 60608 50 .nil .nil) .nil) (.node 60648 27 (.node 60640 35 .nil .nil) .nil)) (.node 61064 36 (.node 61056 50 (.node 60928 53 .nil .nil) .nil) (.node 61088 35 .nil .nil))) (.node 61152 26 (.node 61128 27 (.node 61120 35 (.node 61098 14 .nil .nil) .nil) (.node 61132 14 .nil .nil)) (.node 61164 11 (.node 61162 11 (.node 61160 21 .nil .nil) .nil) (.node 61166 6 .nil .nil)))))) (.node 64752 14 (.node 64168 27 (.node 63680 50 (.node 63488 78 (.node 61632 53 (.node 61600 53 (.node 61568 78 .nil .nil) .nil) (.node 61680 20 (.node 61664 39 .nil .nil) .nil)) (.node 63648 50 (.node 63624 48 (.node 63616 73 .nil .nil) .nil) (.node 63656 35 .nil .nil))) (.node 63736 14 (.node 63720 27 (.node 63712 37 (.node 63688 35 .nil .nil) .nil) (.node 63728 19 .nil .nil)) (.node 64136 35 (.node 64128 50 (.node 64000 53 .nil .nil) .nil) (.node 64160 36 .nil .nil)))) (.node 64640 50 (.node 64234 11 (.node 64200 26 (.node 64192 35 (.node 64170 14 .nil .nil) .nil) (.node 64232 21 (.node 64224 27 .nil .nil) .nil)) (.node 64250 6 (.node 64248 11 (.node 64240 14 .nil .nil) .nil) (.node 64512 53 .nil .nil))) (.node 64712 27 (.node 64680 26 (.node 64672 35 (.node 64648 35 .nil .nil) .nil) (.node 64704 36 .nil .nil)) (.node 64744 21 (.node 64736 27 (.node 64716 14 .nil .nil) .nil) (.node 64748 11 .nil .nil))))) (.node 65278 3 (.node 65228 11 (.node 65184 27 (.node 65024 39 (.node 64764 6 (.node 64760 11 .nil .nil) .nil) (.node 65160 27 (.node 65152 37 .nil .nil) .nil)) (.node 65216 27 (.node 65194 11 (.node 65192 21 .nil .nil) .nil) (.node 65224 21 .nil .nil))) (.node 65262 5 (.node 65258 9 (.node 65256 17 (.node 65248 21 .nil .nil) .nil) (.node 65260 9 .nil .nil)) (.node 65274 5 (.node 65272 9 (.node 65264 11 .nil .nil) .nil) (.node 65276 5 .nil .nil)))) (.node 65512 9 (.node 65450 6 (.node 65416 14 (.node 65408 19 (.node 65280 20 .nil .nil) .nil) (.node 65448 11 (.node 65440 14 .nil .nil) .nil)) (.node 65484 6 (.node 65480 11 (.node 65472 14 .nil .nil) .nil) (.node 65504 11 .nil .nil))) (.node 65528 5 (.node 65518 3 (.node 65516 5 (.node 65514 5 .nil .nil) .nil) (.node 65520 6 .nil .nil)) (.node 65534 2 (.node 65532 3 (.node 65530 3 .nil .nil) .nil) (.node 65535 1 .nil .nil)))))))
def treeD : Tr := (.node 61440 65520 (.node 59552 64232 (.node 49280 65276 (.node 43136 65258 (.node 34952 61166 (.node 32896 65278 (.node 32768 65534 (.node 0 65535 .nil .nil) .nil) (.node 34944 65262 (.node 34816 65518 .nil .nil) .nil)) (.node 41120 64250 (.node 41088 65274 (.node 40960 65530 .nil .nil) .nil) (.node 43008 65514 .nil .nil))) (.node 43656 61098 (.node 43176 60138 (.node 43168 64234 (.node 43144 61162 .nil .nil) .nil) (.node 43648 65194 (.node 43520 65450 .nil .nil) .nil)) (.node 43690 43690 (.node 43688 60074 (.node 43680 64170 .nil .nil) .nil) (.node 49152 65532 .nil .nil)))) (.node 52424 60620 (.node 51400 60652 (.node 51328 65260 (.node 51200 65516 (.node 49344 64764 .nil .nil) .nil) (.node 51392 64748 (.node 51336 61164 .nil .nil) .nil)) (.node 52360 61132 (.node 52352 65228 (.node 52224 65484 .nil .nil) .nil) (.node 52416 64716 .nil .nil))) (.node 57536 64760 (.node 57472 65272 (.node 57344 65528 (.node 52428 52428 .nil .nil) .nil) (.node 57504 64248 .nil .nil)) (.node 59520 65256 (.node 59392 65512 (.node 57568 63736 .nil .nil) .nil) (.node 59528 61160 .nil .nil))))) (.node 60584 60104 (.node 60074 43688 (.node 59904 65448 (.node 59592 60648 (.node 59584 64744 (.node 59560 60136 .nil .nil) .nil) (.node 59624 59624 (.node 59616 63720 .nil .nil) .nil)) (.node 60064 64168 (.node 60040 61096 (.node 60032 65192 .nil .nil) .nil) (.node 60072 60072 .nil .nil))) (.node 60138 43176 (.node 60128 63656 (.node 60104 60584 (.node 60096 64680 .nil .nil) .nil) (.node 60136 59560 .nil .nil)) (.node 60552 61128 (.node 60544 65224 (.node 60416 65480 .nil .nil) .nil) (.node 60576 64200 .nil .nil)))) (.node 61096 60040 (.node 60652 51400 (.node 60620 52424 (.node 60616 60616 (.node 60608 64712 .nil .nil) .nil) (.node 60648 59592 (.node 60640 63688 .nil .nil) .nil)) (.node 61064 61064 (.node 61056 65160 (.node 60928 65416 .nil .nil) .nil) (.node 61088 64136 .nil .nil))) (.node 61152 63624 (.node 61128 60552 (.node 61120 64648 (.node 61098 43656 .nil .nil) .nil) (.node 61132 52360 .nil .nil)) (.node 61164 51336 (.node 61162 43144 (.node 61160 59528 .nil .nil) .nil) (.node 61166 34952 .nil .nil)))))) (.node 64752 61632 (.node 64168 60064 (.node 63680 64736 (.node 63488 65504 (.node 61632 64752 (.node 61600 64240 (.node 61568 65264 .nil .nil) .nil) (.node 61680 61680 (.node 61664 63728 .nil .nil) .nil)) (.node 63648 64224 (.node 63624 61152 (.node 63616 65248 .nil .nil) .nil) (.node 63656 60128 .nil .nil))) (.node 63736 57568 (.node 63720 59616 (.node 63712 63712 (.node 63688 60640 .nil .nil) .nil) (.node 63728 61664 .nil .nil)) (.node 64136 61088 (.node 64128 65184 (.node 64000 65440 .nil .nil) .nil) (.node 64160 64160 .nil .nil)))) (.node 64640 65216 (.node 64234 43168 (.node 64200 60576 (.node 64192 64672 (.node 64170 43680 .nil .nil) .nil) (.node 64232 59552 (.node 64224 63648 .nil .nil) .nil)) (.node 64250 41120 (.node 64248 57504 (.node 64240 61600 .nil .nil) .nil) (.node 64512 65472 .nil .nil))) (.node 64712 60608 (.node 64680 60096 (.node 64672 64192 (.node 64648 61120 .nil .nil) .nil) (.node 64704 64704 .nil .nil)) (.node 64744 59584 (.node 64736 63680 (.node 64716 52416 .nil .nil) .nil) (.node 64748 51392 .nil .nil))))) (.node 65278 32896 (.node 65228 52352 (.node 65184 64128 (.node 65024 65408 (.node 64764 49344 (.node 64760 57536 .nil .nil) .nil) (.node 65160 61056 (.node 65152 65152 .nil .nil) .nil)) (.node 65216 64640 (.node 65194 43648 (.node 65192 60032 .nil .nil) .nil) (.node 65224 60544 .nil .nil))) (.node 65262 34944 (.node 65258 43136 (.node 65256 59520 (.node 65248 63616 .nil .nil) .nil) (.node 65260 51328 .nil .nil)) (.node 65274 41088 (.node 65272 57472 (.node 65264 61568 .nil .nil) .nil) (.node 65276 49280 .nil .nil)))) (.node 65512 59392 (.node 65450 43520 (.node 65416 60928 (.node 65408 65024 (.node 65280 65280 .nil .nil) .nil) (.node 65448 59904 (.node 65440 64000 .nil .nil) .nil)) (.node 65484 52224 (.node 65480 60416 (.node 65472 64512 .nil .nil) .nil) (.node 65504 63488 .nil .nil))) (.node 65528 57344 (.node 65518 34816 (.node 65516 51200 (.node 65514 43008 .nil .nil) .nil) (.node 65520 61440 .nil .nil)) (.node 65534 32768 (.node 65532 49152 (.node 65530 40960 .nil .nil) .nil) (.node 65535 0 .nil .nil)))))))
def A0 : List Nat := [0, 32768, 49152, 40960, 57344, 61440, 34816, 51200, 43008, 59392, 63488, 52224, 60416, 64512, 43520, 59904, 64000, 60928, 65024, 65280, 32896]
def A1 : List Nat := [49280, 41088, 57472, 61568, 34944, 51328, 43136, 59520, 63616, 52352, 60544, 64640, 43648, 60032, 64128, 61056, 65152, 65408, 49344, 57536, 61632]
def A2 : List Nat := [51392, 59584, 63680, 52416, 60608, 64704, 60096, 64192, 61120, 65216, 65472, 41120, 57504, 61600, 43168, 59552, 63648, 60576, 64672, 43680, 60064]
def A3 : List Nat := [64160, 61088, 65184, 65440, 57568, 61664, 59616, 63712, 60640, 64736, 60128, 64224, 61152, 65248, 65504, 61680, 63728, 64752, 64240, 65264, 65520]
def A4 : List Nat := [34952, 51336, 43144, 59528, 63624, 52360, 60552, 64648, 43656, 60040, 64136, 61064, 65160, 65416, 51400, 59592, 63688, 52424, 60616, 64712, 60104]
def A5 : List Nat := [64200, 61128, 65224, 65480, 43176, 59560, 63656, 60584, 64680, 43688, 60072, 64168, 61096, 65192, 65448, 59624, 63720, 60648, 64744, 60136, 64232]
def A6 : List Nat := [61160, 65256, 65512, 63736, 64760, 64248, 65272, 65528, 52428, 60620, 64716, 61132, 65228, 65484, 60652, 64748, 61164, 65260, 65516, 64764, 65276]
def A7 : List Nat := [65532, 43690, 60074, 64170, 61098, 65194, 65450, 60138, 64234, 61162, 65258, 65514, 64250, 65274, 65530, 61166, 65262, 65518, 65278, 65534, 65535]
theorem L4_is : L4 = A0 ++ (A1 ++ (A2 ++ (A3 ++ (A4 ++ (A5 ++ (A6 ++ A7)))))) := by decide +kernel
def sumW (A : List Nat) : Nat := (A.map fun a => (L4.map fun b => treeW.get (a &&& b) * treeA.get (a ||| b)).sum).sum
def sumO (A : List Nat) : Nat := (A.map fun low => (L4.filter fun high => (low &&& high == low) && (low &&& treeD.get high == low)).length).sum
theorem sumW0 : sumW A0 = 615900 := by decide +kernel
theorem sumO0 : sumO A0 = 1452 := by decide +kernel
theorem sumW1 : sumW A1 = 1053526 := by decide +kernel
theorem sumO1 : sumO A1 = 819 := by decide +kernel
theorem sumW2 : sumW A2 = 1161677 := by decide +kernel
theorem sumO2 : sumO A2 = 187 := by decide +kernel
theorem sumW3 : sumW A3 = 1083074 := by decide +kernel
theorem sumO3 : sumO A3 = 20 := by decide +kernel
theorem sumW4 : sumW A4 = 1153773 := by decide +kernel
theorem sumO4 : sumO A4 = 147 := by decide +kernel
theorem sumW5 : sumW A5 = 1293481 := by decide +kernel
theorem sumO5 : sumO A5 = 19 := by decide +kernel
theorem sumW6 : sumW A6 = 851023 := by decide +kernel
theorem sumO6 : sumO A6 = 1 := by decide +kernel
theorem sumW7 : sumW A7 = 615900 := by decide +kernel
theorem sumO7 : sumO A7 = 1 := by decide +kernel
theorem sumW_app (A B : List Nat) : sumW (A ++ B) = sumW A + sumW B := by
  unfold sumW
  rw [List.map_append, List.sum_append]
theorem sumO_app (A B : List Nat) : sumO (A ++ B) = sumO A + sumO B := by
  unfold sumO
  rw [List.map_append, List.sum_append]
theorem sumW_all : sumW L4 = 7828354 := by
  rw [L4_is, sumW_app, sumW_app, sumW_app, sumW_app, sumW_app, sumW_app, sumW_app, sumW0, sumW1, sumW2, sumW3, sumW4, sumW5, sumW6, sumW7]
theorem sumO_all : sumO L4 = 2646 := by
  rw [L4_is, sumO_app, sumO_app, sumO_app, sumO_app, sumO_app, sumO_app, sumO_app, sumO0, sumO1, sumO2, sumO3, sumO4, sumO5, sumO6, sumO7]
theorem rt4 : rt 4 = L4 := by decide +kernel
theorem rt_len : ∀ n : Nat, n ≤ 4 → (rt n).length ≤ 168
  | 0, _ => by decide +kernel
  | 1, _ => by decide +kernel
  | 2, _ => by decide +kernel
  | 3, _ => by decide +kernel
  | 4, _ => by decide +kernel
  | n + 5, h => by omega
theorem rt_nd : ∀ n : Nat, n ≤ 4 → (rt n).Nodup
  | 0, _ => by decide +kernel
  | 1, _ => by decide +kernel
  | 2, _ => by decide +kernel
  | 3, _ => by decide +kernel
  | 4, _ => by
    rw [rt4]
    decide +kernel
  | n + 5, h => by omega
/-- how many of some tables lie within | around one -/
def cw (L : List Nat) (x : Nat) : Nat := (L.filter fun c => c &&& x == c).length
def ca (L : List Nat) (x : Nat) : Nat := (L.filter fun c => x &&& c == x).length
def quartL (L : List Nat) : Nat := (L.map fun a => (L.map fun b => cw L (a &&& b) * ca L (a ||| b)).sum).sum
def ownC (k : Nat) : Nat := ((rt k).filter fun low => low &&& Sv84.dual k low == low).length
theorem quart4 : quartL (rt 4) = 7828354 := by
  have w : ∀ x ∈ rt 4, cw (rt 4) x = treeW.get x := fun x hx => by
    have h : ((rt 4).all fun x => cw (rt 4) x == treeW.get x) = true := by
      rw [rt4]
      decide +kernel
    exact eq_of_beq (List.all_eq_true.mp h x hx)
  have a : ∀ x ∈ rt 4, ca (rt 4) x = treeA.get x := fun x hx => by
    have h : ((rt 4).all fun x => ca (rt 4) x == treeA.get x) = true := by
      rw [rt4]
      decide +kernel
    exact eq_of_beq (List.all_eq_true.mp h x hx)
  have e : quartL (rt 4) = ((rt 4).map fun a => ((rt 4).map fun b => treeW.get (a &&& b) * treeA.get (a ||| b)).sum).sum := by
    unfold quartL
    refine congrArg List.sum (List.map_congr_left fun x hx => congrArg List.sum (List.map_congr_left fun y hy => ?_))
    rw [w _ (rt_and hx hy), a _ (rt_or hx hy)]
  rw [e, rt4]
  exact sumW_all
theorem quart3 : quartL (rt 3) = 7581 := by decide +kernel
theorem quart2 : quartL (rt 2) = (rt 4).length := by decide +kernel
theorem quart1 : quartL (rt 1) = (rt 3).length := by decide +kernel
theorem quart0 : quartL (rt 0) = (rt 2).length := by decide +kernel
theorem own4 : ownC 4 = 81 := by
  unfold ownC
  rw [rt4]
  decide +kernel
theorem rt_succ (k : Nat) : rt (k + 1) = (rt k).flatMap fun low => ((rt k).filter fun high => low &&& high == low).map fun high => low + high * 2 ^ 2 ^ k := rfl
theorem ownC_succ (k : Nat) : ownC (k + 1) = ((rt k).map fun low => ((((rt k).filter fun high => low &&& high == low).map fun high => low + high * 2 ^ 2 ^ k).filter fun low => low &&& Sv84.dual (k + 1) low == low).length).sum := by
  unfold ownC
  rw [rt_succ, List.filter_flatMap, List.length_flatMap]
/-! ### duals by bits -/
theorem tab_bit (f : Nat → Bool) : ∀ i x : Nat, (tabTo f i).testBit x = (decide (x < i) && f x)
  | 0, x => by
    show (0 : Nat).testBit x = _
    rw [Nat.zero_testBit]
    rfl
  | i + 1, x => by
    have hlt : tabTo f i < 2 ^ i := tabTo_lt f i
    have ih := tab_bit f i x
    have e : tabTo f (i + 1) = tabTo f i + (f i).toNat * 2 ^ i := by
      rw [tabTo_succ]
      cases f i <;> simp
    rw [e, half_bit hlt, ih]
    by_cases h1 : x < i
    · rw [if_pos h1, decide_eq_true h1, decide_eq_true (show x < i + 1 by omega)]
    · rw [if_neg h1]
      by_cases h2 : x = i
      · subst h2
        rw [Nat.sub_self, decide_eq_true (Nat.lt_succ_self x)]
        cases f x <;> rfl
      · rw [decide_eq_false (show ¬ x < i + 1 by omega)]
        have h3 : (f i).toNat < 2 ^ (x - i) := Nat.lt_of_le_of_lt (Bool.toNat_le _) (Nat.one_lt_two_pow (by omega))
        rw [Nat.testBit_lt_two_pow h3]
        rfl
theorem dual_bit (n t x : Nat) : (Sv84.dual n t).testBit x = (decide (x < 2 ^ n) && !t.testBit (2 ^ n - 1 - x)) := tab_bit _ (2 ^ n) x
/-- a table whose halves are known lies within its dual -/
theorem own_half {n low high : Nat} (hl : low < 2 ^ 2 ^ n) (hh : high < 2 ^ 2 ^ n) : ((low + high * 2 ^ 2 ^ n) &&& Sv84.dual (n + 1) (low + high * 2 ^ 2 ^ n) == (low + high * 2 ^ 2 ^ n)) = (low &&& Sv84.dual n high == low) := by
  rw [Bool.eq_iff_iff, beq_iff_eq, beq_iff_eq, within_iff, within_iff]
  have e2 : 2 ^ (n + 1) = 2 ^ n + 2 ^ n := by rw [Nat.pow_succ]; omega
  refine ⟨fun h x hx => ?_, fun h x hx => ?_⟩
  · have hx1 := bit_lt hl hx
    have h1 := h x (by rw [half_bit hl, if_pos hx1]; exact hx)
    rw [dual_bit, e2, Bool.and_eq_true, half_bit hl, if_neg (by omega)] at h1
    rw [dual_bit, decide_eq_true hx1, show 2 ^ n - 1 - x = 2 ^ n + 2 ^ n - 1 - x - 2 ^ n by omega, h1.2]
    rfl
  · rw [half_bit hl] at hx
    rw [dual_bit, e2, half_bit hl]
    by_cases hx1 : x < 2 ^ n
    · rw [if_pos hx1] at hx
      have h1 := h x hx
      rw [dual_bit, Bool.and_eq_true] at h1
      rw [if_neg (by omega), decide_eq_true (by omega), show 2 ^ n + 2 ^ n - 1 - x - 2 ^ n = 2 ^ n - 1 - x by omega, h1.2]
      rfl
    · rw [if_neg hx1] at hx
      have hx2 := bit_lt hh hx
      rw [if_pos (by omega), decide_eq_true (by omega), Bool.true_and, Bool.not_eq_true']
      cases hb : low.testBit (2 ^ n + 2 ^ n - 1 - x) with
      | false => rfl
      | true =>
        have h1 := h _ hb
        rw [dual_bit, Bool.and_eq_true, Bool.not_eq_true', show 2 ^ n - 1 - (2 ^ n + 2 ^ n - 1 - x) = x - 2 ^ n by omega, hx] at h1
        cases h1.2
theorem filter_filter_len (p q : Nat → Bool) (g : Nat → Nat) (r : Nat → Bool) (l : List Nat) (h : ∀ x ∈ l, q (g x) = r x) : (((l.filter p).map g).filter q).length = (l.filter fun x => p x && r x).length := by
  induction l with
  | nil => rfl
  | cons a l ih =>
    have ih := ih fun x hx => h x (List.mem_cons_of_mem _ hx)
    have ha := h a (List.mem_cons_self ..)
    rw [List.filter_cons, List.filter_cons]
    cases hp : p a with
    | false => exact ih
    | true =>
      rw [if_pos rfl, List.map_cons, List.filter_cons, ha]
      cases hr : r a with
      | false => exact ih
      | true =>
        rw [if_pos rfl, if_pos (by rfl), List.length_cons, List.length_cons, ih]
theorem own5 : ownC 5 = 2646 := by
  have d : ∀ x ∈ rt 4, Sv84.dual 4 x = treeD.get x := fun x hx => by
    have h : ((rt 4).all fun x => Sv84.dual 4 x == treeD.get x) = true := by
      rw [rt4]
      decide +kernel
    exact eq_of_beq (List.all_eq_true.mp h x hx)
  have e : ownC (4 + 1) = ((rt 4).map fun low => ((rt 4).filter fun high => (low &&& high == low) && (low &&& treeD.get high == low)).length).sum := by
    rw [ownC_succ]
    refine congrArg List.sum (List.map_congr_left fun low hl => ?_)
    refine filter_filter_len (fun high => low &&& high == low) _ _ _ _ fun high hh => ?_
    rw [own_half ((mem_rt 4 low).mp hl).1 ((mem_rt 4 high).mp hh).1, d high hh]
  rw [rt4] at e
  exact e.trans sumO_all
theorem count_le {n : Nat} (hn : n ≤ 4) : Sv84Neutral.countOf n 0 = (rt n).length := by
  unfold Sv84Neutral.countOf
  rw [if_pos hn]
  refine filter_len (rt_nd n hn) fun t => ?_
  rw [mem_rt, ← rises_iff]
  simp
theorem count_own_le {n : Nat} (hn : n ≤ 4) : Sv84Neutral.countOf n 1 = ((rt n).filter fun t => Sv84.dual n t == t).length := by
  unfold Sv84Neutral.countOf
  rw [if_pos hn]
  refine filter_len (List.Pairwise.filter _ (rt_nd n hn)) fun t => ?_
  rw [List.mem_filter, mem_rt, ← rises_iff]
  simp [and_assoc]
theorem count_is {n : Nat} (hn : n ≤ 6) : Sv84Neutral.countOf n 0 = if n < 2 then (rt n).length else quartL (rt (n - 2)) :=
  match n, hn with
  | 0, _ => count_le (by decide)
  | 1, _ => count_le (by decide)
  | 2, _ => (count_le (by decide)).trans quart0.symm
  | 3, _ => (count_le (by decide)).trans quart1.symm
  | 4, _ => (count_le (by decide)).trans quart2.symm
  | 5, _ => by
    rw [if_neg (by decide), quart3]
    rfl
  | 6, _ => by
    rw [if_neg (by decide), quart4]
    rfl
  | n + 7, h => absurd h (by omega)
theorem own_small : ∀ n : Nat, n ≤ 3 → ((rt (n + 1)).filter fun t => Sv84.dual (n + 1) t == t).length = ownC n
  | 0, _ => by decide +kernel
  | 1, _ => by decide +kernel
  | 2, _ => by decide +kernel
  | 3, _ => by
    rw [show rt (3 + 1) = L4 from rt4]
    decide +kernel
  | n + 4, h => absurd h (by omega)
theorem count_own_is {n : Nat} (hn : n ≤ 6) : Sv84Neutral.countOf n 1 = if n = 0 then 0 else ownC (n - 1) :=
  match n, hn with
  | 0, _ => (count_own_le (by decide)).trans (by decide +kernel)
  | 1, _ => (count_own_le (by decide)).trans (own_small 0 (by decide))
  | 2, _ => (count_own_le (by decide)).trans (own_small 1 (by decide))
  | 3, _ => (count_own_le (by decide)).trans (own_small 2 (by decide))
  | 4, _ => (count_own_le (by decide)).trans (own_small 3 (by decide))
  | 5, _ => by
    rw [if_neg (by decide), own4]
    rfl
  | 6, _ => by
    rw [if_neg (by decide), own5]
    rfl
  | n + 7, h => absurd h (by omega)
/-! ### what the loops have so far -/
def rowOf (i low : Nat) : List Nat := ((rt i).filter fun high => low &&& high == low).map fun high => low + high * 2 ^ 2 ^ i
def rowTo (i low m : Nat) : List Nat := (((rt i).take m).filter fun high => low &&& high == low).map fun high => low + high * 2 ^ 2 ^ i
theorem rowTo_len (i low m : Nat) : (rowTo i low m).length ≤ m := by
  unfold rowTo
  rw [List.length_map]
  refine Nat.le_trans (List.length_filter_le _ _) ?_
  rw [List.length_take]
  exact Nat.min_le_left _ _
theorem rowOf_len {i : Nat} (hi : i ≤ 4) (low : Nat) : (rowOf i low).length ≤ 168 := by
  unfold rowOf
  rw [List.length_map]
  exact Nat.le_trans (List.length_filter_le _ _) (rt_len i hi)
theorem flat_le {c : Nat} {f : Nat → List Nat} (h : ∀ x, (f x).length ≤ c) : ∀ l : List Nat, (l.flatMap f).length ≤ l.length * c
  | [] => by simp
  | q :: r => by
    rw [List.flatMap_cons, List.length_append, List.length_cons, Nat.succ_mul]
    have h1 := h q
    have h2 := flat_le h r
    omega
theorem rowTo_yes {i low m high : Nat} (h : (rt i)[m]? = some high) (hw : (low &&& high == low) = true) : rowTo i low (m + 1) = rowTo i low m ++ [low + high * 2 ^ 2 ^ i] := by
  unfold rowTo
  rw [List.take_add_one, h, List.filter_append, List.map_append]
  show _ ++ ([high].filter fun high => low &&& high == low).map _ = _
  rw [List.filter_cons, if_pos hw]
  rfl
theorem rowTo_no {i low m high : Nat} (h : (rt i)[m]? = some high) (hw : (low &&& high == low) = false) : rowTo i low (m + 1) = rowTo i low m := by
  unfold rowTo
  rw [List.take_add_one, h, List.filter_append, List.map_append]
  show _ ++ ([high].filter fun high => low &&& high == low).map _ = _
  rw [List.filter_cons, if_neg (by rw [hw]; decide)]
  exact List.append_nil _
theorem flat_more {f : Nat → List Nat} {l : List Nat} {j x : Nat} (h : l[j]? = some x) : (l.take (j + 1)).flatMap f = (l.take j).flatMap f ++ f x := by
  rw [List.take_add_one, h, List.flatMap_append]
  simp
theorem sum_more {f : Nat → Nat} {l : List Nat} {j x : Nat} (h : l[j]? = some x) : ((l.take (j + 1)).map f).sum = ((l.take j).map f).sum + f x := by
  rw [List.take_add_one, h, List.map_append, List.sum_append]
  simp
theorem cw_len (l : List Nat) (x : Nat) : cw l x ≤ l.length := List.length_filter_le _ _
theorem ca_len (l : List Nat) (x : Nat) : ca l x ≤ l.length := List.length_filter_le _ _
/-! ### dicts -/
def DictAt (H : Hp) (d : Addr) (l : List Nat) (g : Nat → Nat) : Prop := ∃ kvs, H d = some (.dK kvs) ∧ ∀ k ∈ l, valV kvs (Sum.inl (k : Int)) = some (vN (g k))
theorem DictAt.mono {H H' : Hp} {d : Addr} {l : List Nat} {g : Nat → Nat} (e : Ex H H') (h : DictAt H d l g) : DictAt H' d l g := by
  obtain ⟨kvs, h1, h2⟩ := h
  exact ⟨kvs, e _ _ h1, h2⟩
theorem putK_len (kvs : List (Key × V)) (k : Key) (v : V) : (putK kvs k v).length ≤ kvs.length + 1 := by
  unfold putK
  split
  · rw [List.length_map]
    omega
  · rw [List.length_append]
    exact Nat.le_refl _
def pD (K : PySem.W.Frag) (g : List Nat → Nat → Nat) : Sp := fun vs H Q _ => ∃ (a : Addr) (l : List Nat), vs = [.ref a] ∧ l.length ≤ 1000 ∧ SqL K H a (l.map vN) ∧ ∀ d H', H d = none → Ex H H' → DictAt H' d l (g l) → Q (.ref d) H'
section
variable {K : PySem.W.Frag} {σ : L2.St} {H : Hp} {ta tb td ty tv te : TE} {D : Ends} {tz : TS} {v : V}
theorem q_asgD {g : List Nat → Nat → Nat} {tA : TA} {E : XK} {i : Nat} {a : Addr} {l : List Nat} (h : EvA tA σ H [.ref a]) (hl : l.length ≤ 1000) (hs : SqL K H a (l.map vN))
    (k : ∀ d H1, H d = none → Ex H H1 → DictAt H1 d l (g l) → tz D (σ.set i (some (.ref d))) H1) : tSeq (tAsg (tCall (pD K g) [] E tA) (gName i)) tz D σ H :=
  h H (Ex.refl H) _ fun H1 e1 => ⟨a, l, rfl, hl, ex_l e1 hs, fun d H2 hd e2 h2 => k d H2 (fresh_back e1 hd) (e1.trans e2) h2⟩
theorem s_dput {d : Addr} {n : Int} {kvs : List (Key × V)} (hv : Ev tv σ H v) (hd : Ev td σ H (.ref d)) (hk : Ev ty σ H (.int n)) (h : H d = some (.dK kvs)) (hl : kvs.length < 100000)
    (k : ∀ H1, Ex H H1 → D.nx σ (upd H1 d (.dK (putK kvs (Sum.inl n) v)))) : sDPut td ty tv D σ H :=
  hv H (Ex.refl H) _ fun H1 e1 => hd H1 e1 _ fun H2 e2 => hk H2 (e1.trans e2) _ fun H3 e3 => ⟨d, _, rfl, DPut.k (k := Sum.inl n) (((e1.trans e2).trans e3) _ _ h) (sz_lt hl), k H3 ((e1.trans e2).trans e3)⟩
theorem ev_dget {d : Addr} {n : Int} {kvs : List (Key × V)} (hd : Ev td σ H (.ref d)) (hk : Ev ty σ H (.int n)) (h : H d = some (.dK kvs)) (hv : valV kvs (Sum.inl n) = some v) : Ev (tDGet td ty) σ H v := fun H1 e Q q =>
  hd H1 e _ fun H2 e2 => hk H2 (e.trans e2) _ fun H3 e3 => ⟨d, v, rfl, by
    have g := DGet.k (k := Sum.inl n) (((e.trans e2).trans e3) _ _ h)
    rw [hv] at g
    exact g, q H3 (e2.trans e3)⟩
end
end RT
namespace RT
open PySem PySem.Spec PyProof.Rows L2 Evl
/-! ### the text by places -/
def topS (i : Nat) : Stmt := PySem.Challenge.pw_risingtables_s07_count.main.body.getD i (.Pass ⟨0, 0, 0, 0⟩)
section
variable {P : Program} {w : World} {K : PySem.W.Frag} {mg : Str → Option Value} {base : Heap}
/-! ### size_of -/
abbrev s_size_of : Stmt := topS 1
theorem sc_size_of : FnScope ["n"] ["n"] (defScope s_size_of) := ⟨rfl, rfl, rfl, by decide +kernel, rfl, by decide +kernel, by decide +kernel⟩
def r_size_of (_ : Hp) (vs : List V) (z : V) : Prop := ∃ n : Nat, n ≤ 64 ∧ vs = [vN n] ∧ z = vN (2 ^ n)
theorem ok_size_of {f : Addr} {fd : FuncData} (F : Fun K "size_of" "size_of" s_size_of f fd) : FnOk P w K mg base CX0 1 f fd ["n"] (pV r_size_of) := by
  refine F.ok sc_size_of (fun vs H Q E h => ?_) (fun cdv A outer s H vs Q E hr h => ?_)
  · obtain ⟨z, ⟨n, hn, rfl, rfl⟩, _⟩ := h
    rfl
  · obtain ⟨z, ⟨n, hn, rfl, rfl⟩, q⟩ := h
    refine ⟨_, pss_one (ps_ret (pe_op op_shl pe_int (pv 0))), ?_⟩
    refine s_ret (ev_is (ev_op ev_c (ev_var rfl) (rv_I (cpow_nat (a := 1) (by omega) (by decide)))) ?_) q
    exact (shl_nat 1 n).trans (by rw [Nat.one_mul])
/-! ### bit -/
abbrev s_bit : Stmt := topS 2
theorem sc_bit : FnScope ["t", "x"] ["t", "x"] (defScope s_bit) := ⟨rfl, rfl, rfl, by decide +kernel, rfl, by decide +kernel, by decide +kernel⟩
def r_bit (_ : Hp) (vs : List V) (z : V) : Prop := ∃ t x : Nat, vs = [vN t, vN x] ∧ z = vN (bt t x)
theorem ok_bit {f : Addr} {fd : FuncData} (F : Fun K "bit" "bit" s_bit f fd) : FnOk P w K mg base CX0 1 f fd ["t", "x"] (pV r_bit) := by
  refine F.ok sc_bit (fun vs H Q E h => ?_) (fun cdv A outer s H vs Q E hr h => ?_)
  · obtain ⟨z, ⟨t, x, rfl, rfl⟩, _⟩ := h
    rfl
  · obtain ⟨z, ⟨t, x, rfl, rfl⟩, q⟩ := h
    refine ⟨_, pss_one (ps_ret (pe_op op_mod (pe_op op_shr (pv 0) (pv 1)) pe_int)), ?_⟩
    exact s_ret (ev_is (ev_op (ev_op (ev_var rfl) (ev_var rfl) (rv_I (Int.natCast_nonneg x))) ev_c (rv_I (by show (0 : Int) < 2; decide))) (shr_nat t x)) q
/-! ### dual_of -/
abbrev s_dual_of : Stmt := topS 3
theorem sc_dual_of : FnScope ["n", "t", "last", "found", "x"] ["n", "t"] (defScope s_dual_of) := ⟨rfl, rfl, rfl, by decide +kernel, rfl, by decide +kernel, by decide +kernel⟩
def r_dual_of (_ : Hp) (vs : List V) (z : V) : Prop := ∃ n t : Nat, n ≤ 6 ∧ vs = [vN n, vN t] ∧ z = vN (Sv84.dual n t)
def dualF (n t x : Nat) : Bool := !Sv84.gives t (2 ^ n - 1 - x)
theorem dual_turn (n t i : Nat) : V.int (((tabTo (dualF n t) i : Nat) : Int) + (1 - ((bt t (2 ^ n - 1 - i) : Nat) : Int)) * 2 ^ ((i : Nat) : Int).toNat) = vN (tabTo (dualF n t) (i + 1)) := by
  rw [tabTo_succ, bt_eq]
  unfold vN dualF Sv84.gives
  rw [Int.toNat_natCast]
  cases t.testBit (2 ^ n - 1 - i) with
  | true =>
    show V.int (_ + (1 - 1) * _) = V.int _
    simp
  | false =>
    show V.int (_ + (1 - 0) * _) = V.int _
    simp
theorem ok_dual_of {f : Addr} {fd : FuncData} (F : Fun K "dual_of" "dual_of" s_dual_of f fd) (R_size_of : Rdy P w K mg base "size_of" 1 ["n"] (pV r_size_of)) (R_bit : Rdy P w K mg base "bit" 1 ["t", "x"] (pV r_bit)) (z_range : mg "range" = none) : FnOk P w K mg base CX0 2 f fd ["n", "t"] (pV r_dual_of) := by
  refine F.ok sc_dual_of (fun vs H Q E h => ?_) (fun cdv A outer s H vs Q E hr h => ?_)
  · obtain ⟨z, ⟨n, t, hn, rfl, rfl⟩, _⟩ := h
    rfl
  · obtain ⟨z, ⟨n, t, hn, rfl, rfl⟩, q⟩ := h
    have hr1 : Room 1 _ := hr.mono (by decide)
    have hp := pow_le_64 hn
    have hq : 0 < 2 ^ n := Nat.two_pow_pos n
    refine ⟨_, pss_cons (ps_set (i := 2) sc_dual_of.nd rfl (.inl rfl) (pe_op op_sub (pe_rdy R_size_of hr1 rfl (pa_cons (pv 0) pa_nil)) pe_int))
      (pss_cons (ps_set (i := 3) sc_dual_of.nd rfl (.inl rfl) pe_int)
      (pss_cons (ps_for PassesOwn.never rfl (pi_range1 rfl z_range (pa_cons (pe_rdy R_size_of hr1 rfl (pa_cons (pv 0) pa_nil)) pa_nil)) (pg_name (i := 4) sc_dual_of.nd rfl (.inl rfl))
        (pss_one (ps_set (i := 3) sc_dual_of.nd rfl (.inl rfl) (pe_op op_add (pv 3) (pe_op op_shl (pe_op op_sub pe_int (pe_rdy R_bit hr1 rfl (pa_cons (pv 1) (pa_cons (pe_op op_sub (pv 2) (pv 4)) pa_nil)))) (pv 4))))))
      (pss_one (ps_ret (pv 3))))), ?_⟩
    refine q_asg (v := vN (2 ^ n - 1)) (ev_is (ev_op (ev_rdy (ea_cons (ev_var rfl) ea_nil) fun H1 _ => ⟨n, by omega, rfl, rfl⟩) ev_c rv_I0) ?_) fun H1 e1 => ?_
    · show V.int (((2 ^ n : Nat) : Int) - 1) = V.int ((2 ^ n - 1 : Nat) : Int)
      rw [Int.natCast_sub hq]
      rfl
    refine q_asg ev_c fun H2 e2 => ?_
    refine q_forR1 (n := ((2 ^ n : Nat) : Int)) (ea_cons (ev_rdy (ea_cons (ev_var rfl) ea_nil) fun H1 _ => ⟨n, by omega, rfl, rfl⟩) ea_nil) ⟨by omega, by omega⟩
      (fun i σ' H' => ∃ v, σ' = [some (vN n), some (vN t), some (vN (2 ^ n - 1)), some (vN (tabTo (dualF n t) i)), v] ∧ Ex H H') (fun H3 e3 => ⟨none, rfl, (e1.trans e2).trans e3⟩) ?_ ?_
    · rintro i σ' H' hi ⟨v, rfl, e3⟩
      have hi2 : i < 2 ^ n := by omega
      refine s_asg (v := vN (tabTo (dualF n t) (i + 1))) (ev_is (ev_op (ev_var rfl) (ev_op (ev_op ev_c (ev_rdy (z := vN (bt t (2 ^ n - 1 - i))) (ea_cons (ev_var rfl) (ea_cons (ev_is (ev_op (ev_var rfl) (ev_var rfl) rv_I0) ?_) ea_nil)) fun H1 _ => ⟨t, 2 ^ n - 1 - i, rfl, rfl⟩) rv_I0) (ev_var rfl) (rv_I ?_)) rv_I0) (dual_turn n t i)) fun H4 e4 => ⟨_, rfl, e3.trans e4⟩
      · show V.int (((2 ^ n - 1 : Nat) : Int) - (i : Int)) = V.int ((2 ^ n - 1 - i : Nat) : Int)
        rw [← Int.natCast_sub (by omega)]
      · refine ⟨Int.natCast_nonneg _, by omega, ?_⟩
        rw [bt_eq]
        cases t.testBit (2 ^ n - 1 - i) <;> decide
    · rintro σ' H' ⟨v, rfl, e3⟩
      rw [Int.toNat_natCast]
      exact s_ret (ev_var rfl) fun H4 e4 => q H4 (e3.trans e4)
/-! ### is_within -/
abbrev s_is_within : Stmt := topS 5
theorem sc_is_within : FnScope ["one", "other"] ["one", "other"] (defScope s_is_within) := ⟨rfl, rfl, rfl, by decide +kernel, rfl, by decide +kernel, by decide +kernel⟩
def r_is_within (_ : Hp) (vs : List V) (z : V) : Prop := ∃ a b : Nat, vs = [vN a, vN b] ∧ z = .bl (a &&& b == a)
theorem ok_is_within {f : Addr} {fd : FuncData} (F : Fun K "is_within" "is_within" s_is_within f fd) : FnOk P w K mg base CX0 1 f fd ["one", "other"] (pV r_is_within) := by
  refine F.ok sc_is_within (fun vs H Q E h => ?_) (fun cdv A outer s H vs Q E hr h => ?_)
  · obtain ⟨z, ⟨a, b, rfl, rfl⟩, _⟩ := h
    rfl
  · obtain ⟨z, ⟨a, b, rfl, rfl⟩, q⟩ := h
    refine ⟨_, pss_one (ps_ret (pe_cmpR op_eq (pe_op op_and (pv 0) (pv 1)) (pv 0) (nomark _))), ?_⟩
    exact s_ret (ev_is (ev_op (ev_op (ev_var rfl) (ev_var rfl) rv_I0) (ev_var rfl) (rv_eq rfl)) (congrArg V.bl (and_test a b))) q
/-! ### rising_tables -/
abbrev s_rising_tables : Stmt := topS 6
theorem sc_rising_tables : FnScope ["n", "found", "element", "longer", "low", "high"] ["n"] (defScope s_rising_tables) := ⟨rfl, rfl, rfl, by decide +kernel, rfl, by decide +kernel, by decide +kernel⟩
def r_rising_tables (_ : Hp) (vs xs : List V) : Prop := ∃ n : Nat, n ≤ 5 ∧ vs = [vN n] ∧ xs = (rt n).map vN
theorem ok_rising_tables {f : Addr} {fd : FuncData} (F : Fun K "rising_tables" "rising_tables" s_rising_tables f fd) (R_size_of : Rdy P w K mg base "size_of" 1 ["n"] (pV r_size_of)) (R_is_within : Rdy P w K mg base "is_within" 1 ["one", "other"] (pV r_is_within)) (z_range : mg "range" = none) : FnOk P w K mg base CX0 2 f fd ["n"] (pL r_rising_tables) := by
  refine F.ok sc_rising_tables (fun vs H Q E h => ?_) (fun cdv A outer s H vs Q E hr h => ?_)
  · obtain ⟨z, ⟨n, hn, rfl, rfl⟩, _⟩ := h
    rfl
  · obtain ⟨z, ⟨n, hn, rfl, rfl⟩, q⟩ := h
    refine ⟨_, pss_cons (ps_set (i := 1) sc_rising_tables.nd rfl (.inl rfl) (pe_lst (pa_cons pe_int (pa_cons pe_int pa_nil))))
      (pss_cons (ps_for PassesOwn.never rfl (pi_range1 rfl z_range (pa_cons (pv 0) pa_nil)) (pg_name (i := 2) sc_rising_tables.nd rfl (.inl rfl))
        (pss_cons (ps_set (i := 3) sc_rising_tables.nd rfl (.inl rfl) (pe_lst pa_nil))
        (pss_cons (ps_for PassesOwn.never rfl (pi_list (pv 1)) (pg_name (i := 4) sc_rising_tables.nd rfl (.inl rfl))
          (pss_one (ps_for PassesOwn.never rfl (pi_list (pv 1)) (pg_name (i := 5) sc_rising_tables.nd rfl (.inl rfl))
            (pss_one (ps_if (pt_val (pe_rdy R_is_within (hr.mono (by decide)) rfl (pa_cons (pv 4) (pa_cons (pv 5) pa_nil))))
              (pss_one (ps_expr (pe_bm PySem.F.plainAttrs_list PySem.F.slot_list_append PySem.F.type_list_append mt_append (pv 3) (pa_cons (pe_op op_add (pv 4) (pe_op op_shl (pv 5) (pe_rdy R_size_of (hr.mono (by decide)) rfl (pa_cons (pv 2) pa_nil)))) pa_nil)))) pss_nil)))))
        (pss_one (ps_set (i := 1) sc_rising_tables.nd rfl (.inl rfl) (pv 3))))))
      (pss_one (ps_ret (pv 1)))), ?_⟩
    refine q_asgL (xs := (rt 0).map vN) (el_lst (ea_cons ev_c (ea_cons ev_c ea_nil)) (by show 2 ≤ 100000; decide)) fun p0 H1 hp0 e1 h1 => ?_
    refine q_forR1 (n := (n : Int)) (ea_cons (ev_var rfl) ea_nil) ⟨by omega, by omega⟩
      (fun i σ' H' => ∃ (p : Addr) (v2 v3 v4 v5 : Option V), σ' = [some (vN n), some (.ref p), v2, v3, v4, v5] ∧ Ex H H' ∧ H p = none ∧ H' p = some (.lst ((rt i).map vN))) (fun H3 e3 => ⟨p0, none, none, none, none, rfl, e1.trans e3, hp0, e3 _ _ h1⟩) ?_ ?_
    · rintro i σ' H' hi ⟨p, v2, v3, v4, v5, rfl, e2, hp, h2⟩
      have hi2 : i ≤ 4 := by omega
      have hlen := rt_len i hi2
      refine q_asgL (el_lst ea_nil (Nat.zero_le _)) fun l H3 nl e3 h3 => ?_
      refine q_forLn (K := K) (xs := (rt i).map vN) (ev_var rfl) (sq_of (e3 _ _ h2))
        (fun j σ2 H4 => ∃ w4 w5 : Option V, σ2 = [some (vN n), some (.ref p), some (.int (i : Int)), some (.ref l), w4, w5] ∧ Ex H' H4 ∧ H4 l = some (.lst ((((rt i).take j).flatMap (rowOf i)).map vN)))
        (fun H4 e4 => ⟨v4, v5, rfl, e3.trans e4, e4 _ _ h3⟩) (fun j σ2 H4 _ ⟨w4, w5, _, e4, _⟩ => sq_of (e4 _ _ h2)) ?_ ?_
      · rintro j y σ2 H4 hj ⟨w4, w5, rfl, e4, h4⟩
        obtain ⟨low, hlow, rfl⟩ := nat_at hj
        have hj2 : j < (rt i).length := (List.getElem?_eq_some_iff.mp hlow).1
        have f1 : (((rt i).take j).flatMap (rowOf i)).length ≤ j * 168 := by
          refine Nat.le_trans (flat_le (rowOf_len hi2) _) (Nat.mul_le_mul_right 168 ?_)
          rw [List.length_take]
          exact Nat.min_le_left _ _
        refine s_forLn (K := K) (xs := (rt i).map vN) (ev_var rfl) (sq_of (e4 _ _ h2))
          (fun m σ3 H5 => ∃ w5 : Option V, σ3 = [some (vN n), some (.ref p), some (.int (i : Int)), some (.ref l), some (vN low), w5] ∧ Ex H' H5 ∧ H5 l = some (.lst ((((rt i).take j).flatMap (rowOf i) ++ rowTo i low m).map vN)))
          (fun H5 e5 => ⟨w5, rfl, e4.trans e5, ?_⟩) (fun m σ3 H5 _ ⟨w5, _, e5, _⟩ => sq_of (e5 _ _ h2)) ?_ ?_
        · have : rowTo i low 0 = [] := rfl
          rw [this, List.append_nil]
          exact e5 _ _ h4
        · rintro m y σ3 H5 hm ⟨w5, rfl, e5, h5⟩
          obtain ⟨high, hhigh, rfl⟩ := nat_at hm
          have hm2 : m < (rt i).length := (List.getElem?_eq_some_iff.mp hhigh).1
          have hb := ((mem_rt i high).mp (List.mem_of_getElem? hhigh)).1
          have h64 := pow_le_64 (show i ≤ 6 by omega)
          have hb2 : high < 2 ^ 64 := Nat.lt_of_lt_of_le hb (Nat.pow_le_pow_right (by decide) h64)
          have f2 := rowTo_len i low m
          refine s_when (b := low &&& high == low) (et_B (ev_rdy (ea_cons (ev_var rfl) (ea_cons (ev_var rfl) ea_nil)) fun _ _ => ⟨low, high, rfl, rfl⟩)) (fun hw H6 e6 => ?_) (fun hw H6 e6 => ?_)
          · refine s_app (v := vN (low + high * 2 ^ 2 ^ i)) (e6 _ _ h5) (ev_var rfl) (ev_is (ev_op (ev_var rfl) (ev_is (ev_op (ev_var rfl) (ev_rdy (z := vN (2 ^ i)) (ea_cons (ev_var rfl) ea_nil) fun _ _ => ⟨i, by omega, rfl, rfl⟩) (rv_I (cpow_nat (by omega) hb2))) (shl_nat high (2 ^ i))) rv_I0) rfl)
              (by rw [List.length_map, List.length_append]; omega) fun H7 e7 => ⟨_, rfl, Ex.mut ((e5.trans e6).trans e7) nl, ?_⟩
            rw [rowTo_yes hhigh hw, upd_same, ← List.append_assoc, List.map_append (l₂ := [_])]
            rfl
          · refine ⟨_, rfl, e5.trans e6, ?_⟩
            rw [rowTo_no hhigh hw]
            exact e6 _ _ h5
        · rintro σ3 H5 ⟨w5, rfl, e5, h5⟩
          refine ⟨_, w5, rfl, e5, ?_⟩
          rw [flat_more hlow]
          have : rowTo i low ((rt i).map vN).length = rowOf i low := by
            unfold rowTo rowOf
            rw [List.length_map, List.take_length]
          rw [this] at h5
          exact h5
      · rintro σ2 H4 ⟨w4, w5, rfl, e4, h4⟩
        rw [List.length_map, List.take_length] at h4
        exact s_asg (ev_var rfl) fun H5 e5 => ⟨l, _, _, _, _, rfl, (e2.trans e4).trans e5, fresh_back e2 nl, e5 _ _ h4⟩
    · rintro σ' H' ⟨p, v2, v3, v4, v5, rfl, e2, hp, h2⟩
      rw [Int.toNat_natCast] at h2
      exact s_ret (ev_var rfl) fun H4 e4 => q p H4 hp (e2.trans e4) (e4 _ _ h2)
/-! ### how_many_within -/
abbrev s_how_many_within : Stmt := topS 7
theorem sc_how_many_within : FnScope ["some", "found", "one", "other"] ["some"] (defScope s_how_many_within) := ⟨rfl, rfl, rfl, by decide +kernel, rfl, by decide +kernel, by decide +kernel⟩

theorem ok_how_many_within {f : Addr} {fd : FuncData} (F : Fun K "how_many_within" "how_many_within" s_how_many_within f fd) (R_is_within : Rdy P w K mg base "is_within" 1 ["one", "other"] (pV r_is_within)) (z_len : mg "len" = none) : FnOk P w K mg base CX0 2 f fd ["some"] (pD K cw) := by
  refine F.ok sc_how_many_within (fun vs H Q E h => ?_) (fun cdv A outer s H vs Q E hr h => ?_)
  · obtain ⟨a, l, rfl, hl, hs, q⟩ := h
    rfl
  · obtain ⟨a, l, rfl, hl, hs, q⟩ := h
    refine ⟨_, pss_cons (ps_set (i := 1) sc_how_many_within.nd rfl (.inl rfl) pe_dnewK)
      (pss_cons (ps_for PassesOwn.never rfl (pi_list (pv 0)) (pg_name (i := 2) sc_how_many_within.nd rfl (.inr rfl))
        (pss_one (ps_dput (hu_of hr) (pv 1) (pv 2) (pe_callB call_len_seq (by rfl) z_len PySem.boot_len (pa_cons (pe_lc (own := [("other", 3)]) (g := gName 3) rfl sc_how_many_within.nd (pi_list (pv 0)) (blkOk_by (N := ["some", "found", "one", "other"]) (sc := defScope s_how_many_within) (by decide +kernel))
          (fun _ _ _ _ _ => pg_name (i := 3) sc_how_many_within.nd rfl (Or.inl rfl)) (fun _ _ _ _ _ => pts_one (pt_val (pe_rdy R_is_within (hr.mono (by decide)) rfl (pa_cons (pv 3) (pa_cons (pv 2) pa_nil))))) (fun _ _ _ _ _ => pv 3)) pa_nil)) rfl)))
      (pss_one (ps_ret (pv 1)))), ?_⟩
    intro d nd
    refine q_forLn (K := K) (xs := l.map vN) (H := upd H d (.dK [])) (ev_var rfl) (ex_l (Ex.new nd) hs)
      (fun j σ' H' => ∃ (w : Option V) (kvs : List (Key × V)), σ' = [some (.ref a), some (.ref d), w, none] ∧ Ex H H' ∧ H' d = some (.dK kvs) ∧ kvs.length ≤ j ∧ ∀ k ∈ l.take j, valV kvs (Sum.inl (k : Int)) = some (vN (cw l k)))
      (fun H1 e1 => ⟨none, [], rfl, (Ex.new nd).trans e1, e1 _ _ upd_same, Nat.le_refl _, fun k hk => absurd hk (by simp)⟩) (fun j σ' H' _ ⟨w, kvs, _, e1, _, _, _⟩ => ex_l e1 hs) ?_ ?_
    · rintro j y σ' H' hj ⟨w, kvs, rfl, e1, h1, hk1, hk2⟩
      obtain ⟨x, hx, rfl⟩ := nat_at hj
      have hj2 : j < l.length := (List.getElem?_eq_some_iff.mp hx).1
      refine s_dput (n := (x : Int)) (v := vN (cw l x)) (ev_is (ev_lenN (K := K) (xs := (l.filter fun c => c &&& x == c).map vN) (el_is (el_lcL (K := K) (xs := l.map vN) (j := 3) (fun j => l.getD j 0 &&& x == l.getD j 0) (fun j => vN (l.getD j 0)) (ev_var rfl) (ex_l e1 hs)
        (by rw [List.length_map]; omega) (fun _ => rfl) (fun j y H4 _ hy => by
          rw [getD_of hy]
          exact et_B (ev_rdy (ea_cons (ev_var rfl) (ea_cons (ev_var rfl) ea_nil)) fun _ _ => ⟨_, _, rfl, rfl⟩)) (fun j y H4 _ hy _ => by
          rw [getD_of hy]
          exact ev_var rfl)) (given_nats l (fun c => c &&& x == c) vN _ (List.length_map ..)))) (by rw [List.length_map]; rfl)) (ev_var rfl) (ev_var rfl) h1 (by omega) fun H2 e2 => ?_
      have hn := putK_len kvs (Sum.inl (x : Int)) (vN (cw l x))
      refine ⟨_, _, rfl, Ex.mut (e1.trans e2) nd, upd_same, by omega, fun k hk => ?_⟩
      rw [valV_put]
      by_cases e : (Sum.inl (k : Int) : Key) = Sum.inl (x : Int)
      · rw [if_pos e, Int.ofNat_inj.mp (Sum.inl.inj e)]
      · rw [if_neg e]
        rw [List.take_add_one, hx] at hk
        rcases List.mem_append.mp hk with m | m
        · exact hk2 k m
        · exact absurd (by rw [List.mem_singleton.mp (show k ∈ [x] from m)]) e
    · rintro σ' H' ⟨w, kvs, rfl, e1, h1, hk1, hk2⟩
      rw [List.length_map, List.take_length] at hk2
      exact s_ret (ev_var rfl) fun H4 e4 => q d H4 nd (e1.trans e4) ⟨kvs, e4 _ _ h1, hk2⟩
/-! ### how_many_around -/
abbrev s_how_many_around : Stmt := topS 8
theorem sc_how_many_around : FnScope ["some", "found", "one", "other"] ["some"] (defScope s_how_many_around) := ⟨rfl, rfl, rfl, by decide +kernel, rfl, by decide +kernel, by decide +kernel⟩

theorem ok_how_many_around {f : Addr} {fd : FuncData} (F : Fun K "how_many_around" "how_many_around" s_how_many_around f fd) (R_is_within : Rdy P w K mg base "is_within" 1 ["one", "other"] (pV r_is_within)) (z_len : mg "len" = none) : FnOk P w K mg base CX0 2 f fd ["some"] (pD K ca) := by
  refine F.ok sc_how_many_around (fun vs H Q E h => ?_) (fun cdv A outer s H vs Q E hr h => ?_)
  · obtain ⟨a, l, rfl, hl, hs, q⟩ := h
    rfl
  · obtain ⟨a, l, rfl, hl, hs, q⟩ := h
    refine ⟨_, pss_cons (ps_set (i := 1) sc_how_many_around.nd rfl (.inl rfl) pe_dnewK)
      (pss_cons (ps_for PassesOwn.never rfl (pi_list (pv 0)) (pg_name (i := 2) sc_how_many_around.nd rfl (.inr rfl))
        (pss_one (ps_dput (hu_of hr) (pv 1) (pv 2) (pe_callB call_len_seq (by rfl) z_len PySem.boot_len (pa_cons (pe_lc (own := [("other", 3)]) (g := gName 3) rfl sc_how_many_around.nd (pi_list (pv 0)) (blkOk_by (N := ["some", "found", "one", "other"]) (sc := defScope s_how_many_around) (by decide +kernel))
          (fun _ _ _ _ _ => pg_name (i := 3) sc_how_many_around.nd rfl (Or.inl rfl)) (fun _ _ _ _ _ => pts_one (pt_val (pe_rdy R_is_within (hr.mono (by decide)) rfl (pa_cons (pv 2) (pa_cons (pv 3) pa_nil))))) (fun _ _ _ _ _ => pv 3)) pa_nil)) rfl)))
      (pss_one (ps_ret (pv 1)))), ?_⟩
    intro d nd
    refine q_forLn (K := K) (xs := l.map vN) (H := upd H d (.dK [])) (ev_var rfl) (ex_l (Ex.new nd) hs)
      (fun j σ' H' => ∃ (w : Option V) (kvs : List (Key × V)), σ' = [some (.ref a), some (.ref d), w, none] ∧ Ex H H' ∧ H' d = some (.dK kvs) ∧ kvs.length ≤ j ∧ ∀ k ∈ l.take j, valV kvs (Sum.inl (k : Int)) = some (vN (ca l k)))
      (fun H1 e1 => ⟨none, [], rfl, (Ex.new nd).trans e1, e1 _ _ upd_same, Nat.le_refl _, fun k hk => absurd hk (by simp)⟩) (fun j σ' H' _ ⟨w, kvs, _, e1, _, _, _⟩ => ex_l e1 hs) ?_ ?_
    · rintro j y σ' H' hj ⟨w, kvs, rfl, e1, h1, hk1, hk2⟩
      obtain ⟨x, hx, rfl⟩ := nat_at hj
      have hj2 : j < l.length := (List.getElem?_eq_some_iff.mp hx).1
      refine s_dput (n := (x : Int)) (v := vN (ca l x)) (ev_is (ev_lenN (K := K) (xs := (l.filter fun c => x &&& c == x).map vN) (el_is (el_lcL (K := K) (xs := l.map vN) (j := 3) (fun j => x &&& l.getD j 0 == x) (fun j => vN (l.getD j 0)) (ev_var rfl) (ex_l e1 hs)
        (by rw [List.length_map]; omega) (fun _ => rfl) (fun j y H4 _ hy => by
          rw [getD_of hy]
          exact et_B (ev_rdy (ea_cons (ev_var rfl) (ea_cons (ev_var rfl) ea_nil)) fun _ _ => ⟨_, _, rfl, rfl⟩)) (fun j y H4 _ hy _ => by
          rw [getD_of hy]
          exact ev_var rfl)) (given_nats l (fun c => x &&& c == x) vN _ (List.length_map ..)))) (by rw [List.length_map]; rfl)) (ev_var rfl) (ev_var rfl) h1 (by omega) fun H2 e2 => ?_
      have hn := putK_len kvs (Sum.inl (x : Int)) (vN (ca l x))
      refine ⟨_, _, rfl, Ex.mut (e1.trans e2) nd, upd_same, by omega, fun k hk => ?_⟩
      rw [valV_put]
      by_cases e : (Sum.inl (k : Int) : Key) = Sum.inl (x : Int)
      · rw [if_pos e, Int.ofNat_inj.mp (Sum.inl.inj e)]
      · rw [if_neg e]
        rw [List.take_add_one, hx] at hk
        rcases List.mem_append.mp hk with m | m
        · exact hk2 k m
        · exact absurd (by rw [List.mem_singleton.mp (show k ∈ [x] from m)]) e
    · rintro σ' H' ⟨w, kvs, rfl, e1, h1, hk1, hk2⟩
      rw [List.length_map, List.take_length] at hk2
      exact s_ret (ev_var rfl) fun H4 e4 => q d H4 nd (e1.trans e4) ⟨kvs, e4 _ _ h1, hk2⟩
/-! ### count_by_quarters -/
abbrev s_count_by_quarters : Stmt := topS 9
theorem sc_count_by_quarters : FnScope ["n", "some", "within", "around", "found", "one", "other"] ["n"] (defScope s_count_by_quarters) := ⟨rfl, rfl, rfl, by decide +kernel, rfl, by decide +kernel, by decide +kernel⟩
def r_count_by_quarters (_ : Hp) (vs : List V) (z : V) : Prop := ∃ n : Nat, 2 ≤ n ∧ n ≤ 6 ∧ vs = [vN n] ∧ z = vN (quartL (rt (n - 2)))
def qTerm (L : List Nat) (a b : Nat) : Nat := cw L (a &&& b) * ca L (a ||| b)
def qRow (L : List Nat) (a : Nat) : Nat := (L.map (qTerm L a)).sum
theorem ok_count_by_quarters {f : Addr} {fd : FuncData} (F : Fun K "count_by_quarters" "count_by_quarters" s_count_by_quarters f fd) (R_rising_tables : Rdy P w K mg base "rising_tables" 2 ["n"] (pL r_rising_tables)) (R_how_many_within : Rdy P w K mg base "how_many_within" 2 ["some"] (pD K cw)) (R_how_many_around : Rdy P w K mg base "how_many_around" 2 ["some"] (pD K ca)) : FnOk P w K mg base CX0 3 f fd ["n"] (pV r_count_by_quarters) := by
  refine F.ok sc_count_by_quarters (fun vs H Q E h => ?_) (fun cdv A outer s H vs Q E hr h => ?_)
  · obtain ⟨z, ⟨n, h2, hn, rfl, rfl⟩, _⟩ := h
    rfl
  · obtain ⟨z, ⟨n, h2, hn, rfl, rfl⟩, q⟩ := h
    refine ⟨_, pss_cons (ps_set (i := 1) sc_count_by_quarters.nd rfl (.inl rfl) (pe_rdy R_rising_tables (hr.mono (by decide)) rfl (pa_cons (pe_op op_sub (pv 0) pe_int) pa_nil)))
      (pss_cons (ps_set (i := 2) sc_count_by_quarters.nd rfl (.inl rfl) (pe_rdy R_how_many_within (hr.mono (by decide)) rfl (pa_cons (pv 1) pa_nil)))
      (pss_cons (ps_set (i := 3) sc_count_by_quarters.nd rfl (.inl rfl) (pe_rdy R_how_many_around (hr.mono (by decide)) rfl (pa_cons (pv 1) pa_nil)))
      (pss_cons (ps_set (i := 4) sc_count_by_quarters.nd rfl (.inl rfl) pe_int)
      (pss_cons (ps_for PassesOwn.never rfl (pi_list (pv 1)) (pg_name (i := 5) sc_count_by_quarters.nd rfl (.inl rfl))
        (pss_one (ps_for PassesOwn.never rfl (pi_list (pv 1)) (pg_name (i := 6) sc_count_by_quarters.nd rfl (.inl rfl))
          (pss_one (ps_set (i := 4) sc_count_by_quarters.nd rfl (.inl rfl) (pe_op op_add (pv 4) (pe_op op_mul (pe_dget (hu_of hr) (pv 2) (pe_op op_and (pv 5) (pv 6)) (fun _ _ => rfl)) (pe_dget (hu_of hr) (pv 3) (pe_op op_or (pv 5) (pv 6)) (fun _ _ => rfl)))))))))
      (pss_one (ps_ret (pv 4))))))), ?_⟩
    have hlen := rt_len (n - 2) (by omega)
    have hnd : ∀ a ∈ rt (n - 2), ∀ b ∈ rt (n - 2), a &&& b ∈ rt (n - 2) ∧ a ||| b ∈ rt (n - 2) := fun a ha b hb => ⟨rt_and ha hb, rt_or ha hb⟩
    refine q_asgL (xs := (rt (n - 2)).map vN) (el_rdy (ea_cons (ev_is (w := vN (n - 2)) (ev_op (ev_var rfl) ev_c rv_I0) ?_) ea_nil) fun _ _ => ⟨n - 2, by omega, rfl, rfl⟩) fun p H1 hp e1 h1 => ?_
    · show V.int ((n : Int) - 2) = V.int ((n - 2 : Nat) : Int)
      rw [Int.natCast_sub h2]
      rfl
    have qe : quartL (rt (n - 2)) = ((rt (n - 2)).map (qRow (rt (n - 2)))).sum := rfl
    rw [qe] at q
    generalize rt (n - 2) = L at hlen hnd q h1 ⊢
    refine q_asgD (K := K) (g := cw) (ea_cons (ev_var rfl) ea_nil) (by omega) (sq_of h1) fun dw H2 ndw e2 h2w => ?_
    refine q_asgD (K := K) (g := ca) (ea_cons (ev_var rfl) ea_nil) (by omega) (sq_of (e2 _ _ h1)) fun da H3 nda e3 h3a => ?_
    refine q_asg ev_c fun H4 e4 => ?_
    have E4 : Ex H H4 := ((e1.trans e2).trans e3).trans e4
    have hw := h2w.mono (e3.trans e4)
    have ha := h3a.mono e4
    have hL := (e2.trans (e3.trans e4)) _ _ h1
    obtain ⟨kw, hw1, hw2⟩ := hw
    obtain ⟨ka, ha1, ha2⟩ := ha
    refine q_forLn (K := K) (xs := L.map vN) (ev_var rfl) (sq_of hL)
      (fun j σ' H' => ∃ w5 w6 : Option V, σ' = [some (vN n), some (.ref p), some (.ref dw), some (.ref da), some (vN ((L.take j).map (qRow L)).sum), w5, w6] ∧ Ex H4 H')
      (fun H5 e5 => ⟨none, none, rfl, e5⟩) (fun j σ' H' _ ⟨w5, w6, _, e5⟩ => sq_of (e5 _ _ hL)) ?_ ?_
    · rintro j y σ' H' hj ⟨w5, w6, rfl, e5⟩
      obtain ⟨x, hx, rfl⟩ := nat_at hj
      have hxm := List.mem_of_getElem? hx
      refine s_forLn (K := K) (xs := L.map vN) (ev_var rfl) (sq_of (e5 _ _ hL))
        (fun m σ2 H6 => ∃ w6 : Option V, σ2 = [some (vN n), some (.ref p), some (.ref dw), some (.ref da), some (vN (((L.take j).map (qRow L)).sum + ((L.take m).map (qTerm L x)).sum)), some (vN x), w6] ∧ Ex H4 H6)
        (fun H6 e6 => ⟨w6, rfl, e5.trans e6⟩) (fun m σ2 H6 _ ⟨w6, _, e6⟩ => sq_of (e6 _ _ hL)) ?_ ?_
      · rintro m y σ2 H6 hm ⟨w6, rfl, e6⟩
        obtain ⟨z, hz, rfl⟩ := nat_at hm
        have hzm := List.mem_of_getElem? hz
        obtain ⟨c1, c2⟩ := hnd x hxm z hzm
        have b1 := cw_len L (x &&& z)
        refine s_asg (v := vN (((L.take j).map (qRow L)).sum + ((L.take (m + 1)).map (qTerm L x)).sum)) (ev_is (ev_op (ev_var rfl) (ev_op (ev_dget (n := ((x &&& z : Nat) : Int)) (ev_var rfl) (ev_is (ev_op (ev_var rfl) (ev_var rfl) rv_I0) (congrArg V.int (bitAnd_nat x z))) (e6 _ _ hw1) (hw2 _ c1))
          (ev_dget (n := ((x ||| z : Nat) : Int)) (ev_var rfl) (ev_is (ev_op (ev_var rfl) (ev_var rfl) rv_I0) (congrArg V.int (bitOr_nat x z))) (e6 _ _ ha1) (ha2 _ c2)) (rv_I (.inl ⟨by omega, by omega⟩))) rv_I0) ?_) fun H7 e7 => ⟨_, rfl, e6.trans e7⟩
        rw [sum_more hz, ← Nat.add_assoc]
        unfold qTerm vN
        simp only [Int.natCast_add, Int.natCast_mul]
      · rintro σ2 H6 ⟨w6, rfl, e6⟩
        refine ⟨some (vN x), w6, ?_, e6⟩
        rw [sum_more hx, List.length_map, List.take_length]
        rfl
    · rintro σ' H' ⟨w5, w6, rfl, e5⟩
      refine s_ret (ev_var rfl) fun H6 e6 => ?_
      rw [List.length_map, List.take_length]
      exact q H6 (E4.trans (e5.trans e6))
/-! ### count_rising -/
abbrev s_count_rising : Stmt := topS 10
theorem sc_count_rising : FnScope ["n"] ["n"] (defScope s_count_rising) := ⟨rfl, rfl, rfl, by decide +kernel, rfl, by decide +kernel, by decide +kernel⟩
def r_count_rising (_ : Hp) (vs : List V) (z : V) : Prop := ∃ n : Nat, n ≤ 6 ∧ vs = [vN n] ∧ z = vN (Sv84Neutral.countOf n 0)
theorem ok_count_rising {f : Addr} {fd : FuncData} (F : Fun K "count_rising" "count_rising" s_count_rising f fd) (R_rising_tables : Rdy P w K mg base "rising_tables" 2 ["n"] (pL r_rising_tables)) (R_count_by_quarters : Rdy P w K mg base "count_by_quarters" 3 ["n"] (pV r_count_by_quarters)) (z_len : mg "len" = none) : FnOk P w K mg base CX0 4 f fd ["n"] (pV r_count_rising) := by
  refine F.ok sc_count_rising (fun vs H Q E h => ?_) (fun cdv A outer s H vs Q E hr h => ?_)
  · obtain ⟨z, ⟨n, hn, rfl, rfl⟩, _⟩ := h
    rfl
  · obtain ⟨z, ⟨n, hn, rfl, rfl⟩, q⟩ := h
    refine ⟨_, pss_one (ps_ret (pe_ifExp (pt_cmpR op_lt (pv 0) pe_int (nomark _)) (pe_callB call_len_seq (by rfl) z_len PySem.boot_len (pa_cons (pe_rdy R_rising_tables (hr.mono (by decide)) rfl (pa_cons (pv 0) pa_nil)) pa_nil)) (pe_rdy R_count_by_quarters (hr.mono (by decide)) rfl (pa_cons (pv 0) pa_nil)))), ?_⟩
    refine s_ret (ev_if (b := decide ((n : Int) < 2)) (et_test (ev_op (ev_var rfl) ev_c rv_I0)) (fun hb => ?_) (fun hb => ?_)) q
    · have hb := of_decide_eq_true hb
      rw [count_is hn, if_pos (by omega)]
      refine ev_is (ev_lenN (K := K) (xs := (rt n).map vN) (el_rdy (ea_cons (ev_var rfl) ea_nil) fun _ _ => ⟨n, by omega, rfl, rfl⟩)) ?_
      rw [List.length_map]
      rfl
    · have hb := of_decide_eq_false hb
      rw [count_is hn, if_neg (by omega)]
      exact ev_rdy (ea_cons (ev_var rfl) ea_nil) fun _ _ => ⟨n, by omega, hn, rfl, rfl⟩
/-! ### count_own -/
abbrev s_count_own : Stmt := topS 11
theorem sc_count_own : FnScope ["n", "low"] ["n"] (defScope s_count_own) := ⟨rfl, rfl, rfl, by decide +kernel, rfl, by decide +kernel, by decide +kernel⟩
def r_count_own (_ : Hp) (vs : List V) (z : V) : Prop := ∃ n : Nat, n ≤ 6 ∧ vs = [vN n] ∧ z = vN (Sv84Neutral.countOf n 1)
theorem rt5_len {n : Nat} (hn : n ≤ 5) : (rt n).length ≤ 28224 := by
  by_cases h : n ≤ 4
  · exact Nat.le_trans (rt_len n h) (by decide)
  · have e : n = 4 + 1 := by omega
    rw [e, rt_succ]
    have h1 := flat_le (rowOf_len (Nat.le_refl 4)) (rt 4)
    have h2 := Nat.mul_le_mul_right 168 (rt_len 4 (Nat.le_refl 4))
    exact Nat.le_trans h1 h2
theorem ok_count_own {f : Addr} {fd : FuncData} (F : Fun K "count_own" "count_own" s_count_own f fd) (R_dual_of : Rdy P w K mg base "dual_of" 2 ["n", "t"] (pV r_dual_of)) (R_is_within : Rdy P w K mg base "is_within" 1 ["one", "other"] (pV r_is_within)) (R_rising_tables : Rdy P w K mg base "rising_tables" 2 ["n"] (pL r_rising_tables)) (z_len : mg "len" = none) : FnOk P w K mg base CX0 3 f fd ["n"] (pV r_count_own) := by
  refine F.ok sc_count_own (fun vs H Q E h => ?_) (fun cdv A outer s H vs Q E hr h => ?_)
  · obtain ⟨z, ⟨n, hn, rfl, rfl⟩, _⟩ := h
    rfl
  · obtain ⟨z, ⟨n, hn, rfl, rfl⟩, q⟩ := h
    rw [count_own_is hn] at q
    refine ⟨_, pss_cons (ps_if (pt_cmpR op_eq (pv 0) pe_int (nomark _)) (pss_one (ps_ret pe_int)) pss_nil)
      (pss_one (ps_ret (pe_callB call_len_seq (by rfl) z_len PySem.boot_len (pa_cons (pe_lc (own := [("low", 1)]) (g := gName 1) rfl sc_count_own.nd (pi_list (pe_rdy R_rising_tables (hr.mono (by decide)) rfl (pa_cons (pe_op op_sub (pv 0) pe_int) pa_nil))) (blkOk_by (N := ["n", "low"]) (sc := defScope s_count_own) (by decide +kernel))
        (fun _ _ _ _ _ => pg_name (i := 1) sc_count_own.nd rfl (Or.inl rfl)) (fun _ _ _ _ _ => pts_one (pt_val (pe_rdy R_is_within (hr.mono (by decide)) rfl (pa_cons (pv 1) (pa_cons (pe_rdy R_dual_of (hr.mono (by decide)) rfl (pa_cons (pe_op op_sub (pv 0) pe_int) (pa_cons (pv 1) pa_nil))) pa_nil))))) (fun _ _ _ _ _ => pv 1)) pa_nil)))), ?_⟩
    refine q_when (b := decide (n = 0)) (et_is (et_test (ev_op (ev_var rfl) ev_c (rv_eq rfl))) ?_) (fun hb H1 e1 => ?_) (fun hb H1 e1 => ?_)
    · refine decide_eq_decide.mpr ⟨fun e => ?_, fun e => by rw [e]; rfl⟩
      have := V.int.inj e
      omega
    · rw [if_pos (of_decide_eq_true hb)] at q
      exact s_ret ev_c fun H2 e2 => q H2 (e1.trans e2)
    · have hb := of_decide_eq_false hb
      rw [if_neg hb] at q
      have hl := rt5_len (show n - 1 ≤ 5 by omega)
      have hsub : V.int ((n : Int) - 1) = vN (n - 1) := by
        show V.int ((n : Int) - 1) = V.int ((n - 1 : Nat) : Int)
        rw [Int.natCast_sub (by omega)]
        rfl
      have n1 : n - 1 ≤ 5 := by omega
      refine s_ret (ev_is (ev_lenN (K := K) (xs := ((rt (n - 1)).filter fun low => low &&& Sv84.dual (n - 1) low == low).map vN) (el_is (el_lcNL (K := K) (j := 1) (fun i => (rt (n - 1)).getD i 0 &&& Sv84.dual (n - 1) ((rt (n - 1)).getD i 0) == (rt (n - 1)).getD i 0) (fun i => vN ((rt (n - 1)).getD i 0))
        (el_rdy (xs := (rt (n - 1)).map vN) (ea_cons (ev_is (ev_op (ev_var rfl) ev_c rv_I0) hsub) ea_nil) fun _ _ => ⟨n - 1, n1, rfl, rfl⟩)
        (by rw [List.length_map]; omega) (fun _ => rfl) (fun i y H2 _ hy => by
          rw [getD_of hy]
          exact et_B (ev_rdy (ea_cons (ev_var rfl) (ea_cons (ev_rdy (ea_cons (ev_is (ev_op (ev_var rfl) ev_c rv_I0) hsub) (ea_cons (ev_var rfl) ea_nil)) fun _ _ => ⟨n - 1, _, by omega, rfl, rfl⟩) ea_nil)) fun _ _ => ⟨_, _, rfl, rfl⟩)) (fun i y H2 _ hy _ => by
          rw [getD_of hy]
          exact ev_var rfl)) (given_nats (rt (n - 1)) (fun low => low &&& Sv84.dual (n - 1) low == low) vN _ (List.length_map ..)))) ?_) fun H2 e2 => q H2 (e1.trans e2)
      rw [List.length_map]
      rfl
/-! ### is_size -/
abbrev s_is_size : Stmt := topS 15
theorem sc_is_size : FnScope ["n"] ["n"] (defScope s_is_size) := ⟨rfl, rfl, rfl, by decide +kernel, rfl, by decide +kernel, by decide +kernel⟩
def r_is_size (_ : Hp) (vs : List V) (z : V) : Prop := ∃ n : Int, vs = [.int n] ∧ z = .bl (Sv84.sizeOk n)
theorem ok_is_size {f : Addr} {fd : FuncData} (F : Fun K "is_size" "is_size" s_is_size f fd) (c_MOST_ELEMENTS : ∃ t, mg "MOST_ELEMENTS" = some (.int 6 t)) : FnOk P w K mg base CX0 1 f fd ["n"] (pV r_is_size) := by
  refine F.ok sc_is_size (fun vs H Q E h => ?_) (fun cdv A outer s H vs Q E hr h => ?_)
  · obtain ⟨z, ⟨n, rfl, rfl⟩, _⟩ := h
    rfl
  · obtain ⟨z, ⟨n, rfl, rfl⟩, q⟩ := h
    obtain ⟨t1, m1⟩ := c_MOST_ELEMENTS
    refine ⟨_, pss_one (ps_ret (pe_chain op_le op_le pe_int (pv 0) (pe_glob (v := .int 6) rfl m1 ⟨_, rfl⟩))), ?_⟩
    exact s_ret (ev_chain ev_c (ev_var rfl) rv_I0 ev_c rv_I0) q
/-! ### count -/
abbrev s_count : Stmt := topS 16
theorem sc_count : FnScope ["n", "own"] ["n", "own"] (defScope s_count) := ⟨rfl, rfl, rfl, by decide +kernel, rfl, by decide +kernel, by decide +kernel⟩
def t_count (_ : Hp) (vs : List V) (out : List Int) : Prop := ∃ n own : Int, vs = [.int n, .int own] ∧ out = PySv84.count n own
theorem in_01 (own : Int) : inV (.int own) [.int 0, .int 1] = Sv84.between own 0 1 := by
  show ((0 : Int) == own || ((1 : Int) == own || false)) = (decide (0 ≤ own) && decide (own ≤ 1))
  rw [Bool.eq_iff_iff]
  simp only [Bool.or_false, Bool.or_eq_true, beq_iff_eq, Bool.and_eq_true, decide_eq_true_eq]
  omega
theorem ok_count {f : Addr} {fd : FuncData} (F : Fun K "count" "count" s_count f fd) (R_is_size : Rdy P w K mg base "is_size" 1 ["n"] (pV r_is_size)) (R_count_own : Rdy P w K mg base "count_own" 3 ["n"] (pV r_count_own)) (R_count_rising : Rdy P w K mg base "count_rising" 4 ["n"] (pV r_count_rising)) (c_RANGE : ∃ t, mg "RANGE" = some (.int (-2) t)) : FnOk P w K mg base CX0 5 f fd ["n", "own"] (pT t_count) := by
  refine F.ok sc_count (fun vs H Q E h => ?_) (fun cdv A outer s H vs Q E hr h => ?_)
  · obtain ⟨out, ⟨n, own, rfl, rfl⟩, _⟩ := h
    rfl
  · obtain ⟨out, ⟨n, own, rfl, rfl⟩, q⟩ := h
    obtain ⟨t1, m1⟩ := c_RANGE
    refine ⟨_, pss_cons (ps_if (PW.pt (pw_or (pt_not (pt_val (pe_rdy R_is_size (hr.mono (by decide)) rfl (pa_cons (pv 0) pa_nil)))) (pw_or1 (pt_cmpR (op_notInK (K := K) rfl) (pv 1) (pe_tup (pa_cons pe_int (pa_cons pe_int pa_nil))) (by with_unfolding_all rfl)))))
        (pss_one (ps_ret (pe_lst (pa_cons (pe_glob (v := .int (-2)) rfl m1 ⟨_, rfl⟩) pa_nil)))) pss_nil)
      (pss_one (ps_ret (pe_ifExp (pt_cmpR op_eq (pv 1) pe_int (nomark _)) (pe_lst (pa_cons (pe_rdy R_count_own (hr.mono (by decide)) rfl (pa_cons (pv 0) pa_nil)) pa_nil)) (pe_lst (pa_cons (pe_rdy R_count_rising (hr.mono (by decide)) rfl (pa_cons (pv 0) pa_nil)) pa_nil))))), ?_⟩
    have spec : PySv84.count n own = Sv84Neutral.on (Sv84.countOk n own) true fun _ => [((Sv84Neutral.countOf n.toNat own.toNat : Nat) : Int)] := rfl
    rw [spec] at q
    unfold Sv84Neutral.on at q
    refine q_when (b := !Sv84.countOk n own) (et_is (et_or (et_not (et_B (ev_rdy (ea_cons (ev_var rfl) ea_nil) fun _ _ => ⟨n, rfl, rfl⟩))) (fun _ => et_test (ev_niU (K := K) (ev_var rfl) (eu_tup (ea_cons ev_c (ea_cons ev_c ea_nil)) (by show 2 ≤ 100000; decide)) rfl rfl))) ?_) (fun hb H1 e1 => ?_) (fun hb H1 e1 => ?_)
    · unfold Sv84.countOk
      rw [in_01, Bool.not_and]
    · rw [if_pos (by simpa using hb)] at q
      exact s_retL (el_lst (ea_cons ev_c ea_nil) (by show 1 ≤ 100000; decide)) fun p H3 _ _ hp => q H3 p hp
    · have hb2 : Sv84.countOk n own = true := by simpa using hb
      rw [if_neg (by rw [hb2]; decide), if_neg (by decide)] at q
      unfold Sv84.countOk at hb2
      rw [Bool.and_eq_true] at hb2
      obtain ⟨m, rfl, hm⟩ := size_nat hb2.1
      rw [Int.toNat_natCast] at q
      have ho : own = 0 ∨ own = 1 := by
        have := hb2.2
        unfold Sv84.between at this
        rw [Bool.and_eq_true, decide_eq_true_eq, decide_eq_true_eq] at this
        omega
      refine s_retL (xs := [vN (Sv84Neutral.countOf m own.toNat)]) (el_if (b := decide (V.int own = V.int 1)) (et_test (ev_op (ev_var rfl) ev_c (rv_eq rfl))) (fun hc => ?_) (fun hc => ?_)) fun p H3 _ _ hp => q H3 p hp
      · have e : own = 1 := V.int.inj (of_decide_eq_true hc)
        subst e
        exact el_lst (ea_cons (ev_rdy (ea_cons (ev_var rfl) ea_nil) fun _ _ => ⟨m, hm, rfl, rfl⟩) ea_nil) (by show 1 ≤ 100000; decide)
      · have e : own = 0 := by
          rcases ho with e | e
          · exact e
          · exact absurd (by rw [e]) (of_decide_eq_false hc)
        subst e
        exact el_lst (ea_cons (ev_rdy (ea_cons (ev_var rfl) ea_nil) fun _ _ => ⟨m, hm, rfl, rfl⟩) ea_nil) (by show 1 ≤ 100000; decide)
end
theorem all_mk {P : Program} {w : World} {K : PySem.W.Frag} {h : Heap} {mg : Str → Option Value} {fa f_size_of f_bit f_dual_of f_is_within f_rising_tables f_how_many_within f_how_many_around f_count_by_quarters f_count_rising f_count_own f_is_size f_count : Addr} (X : K.In h) (G : h.Ns mainGlobals mg) (hfa : mg "count" = some (.ref fa)) {od_size_of an_size_of : Option Addr} {sl_size_of : Array (Option Value)} {oc_size_of kV_size_of dc_size_of pm_size_of cd_size_of ct_size_of : Value} {od_bit an_bit : Option Addr} {sl_bit : Array (Option Value)} {oc_bit kV_bit dc_bit pm_bit cd_bit ct_bit : Value} {od_dual_of an_dual_of : Option Addr} {sl_dual_of : Array (Option Value)} {oc_dual_of kV_dual_of dc_dual_of pm_dual_of cd_dual_of ct_dual_of : Value} {od_is_within an_is_within : Option Addr} {sl_is_within : Array (Option Value)} {oc_is_within kV_is_within dc_is_within pm_is_within cd_is_within ct_is_within : Value} {od_rising_tables an_rising_tables : Option Addr} {sl_rising_tables : Array (Option Value)} {oc_rising_tables kV_rising_tables dc_rising_tables pm_rising_tables cd_rising_tables ct_rising_tables : Value} {od_how_many_within an_how_many_within : Option Addr} {sl_how_many_within : Array (Option Value)} {oc_how_many_within kV_how_many_within dc_how_many_within pm_how_many_within cd_how_many_within ct_how_many_within : Value} {od_how_many_around an_how_many_around : Option Addr} {sl_how_many_around : Array (Option Value)} {oc_how_many_around kV_how_many_around dc_how_many_around pm_how_many_around cd_how_many_around ct_how_many_around : Value} {od_count_by_quarters an_count_by_quarters : Option Addr} {sl_count_by_quarters : Array (Option Value)} {oc_count_by_quarters kV_count_by_quarters dc_count_by_quarters pm_count_by_quarters cd_count_by_quarters ct_count_by_quarters : Value} {od_count_rising an_count_rising : Option Addr} {sl_count_rising : Array (Option Value)} {oc_count_rising kV_count_rising dc_count_rising pm_count_rising cd_count_rising ct_count_rising : Value} {od_count_own an_count_own : Option Addr} {sl_count_own : Array (Option Value)} {oc_count_own kV_count_own dc_count_own pm_count_own cd_count_own ct_count_own : Value} {od_is_size an_is_size : Option Addr} {sl_is_size : Array (Option Value)} {oc_is_size kV_is_size dc_is_size pm_is_size cd_is_size ct_is_size : Value} {od_count an_count : Option Addr} {sl_count : Array (Option Value)} {oc_count kV_count dc_count pm_count cd_count ct_count : Value} {tk_MOST_ELEMENTS : Tok} {tk_RANGE : Tok}
    (a_size_of : PySem.W.nsIn K mainGlobals "size_of" = some (some (.ref f_size_of))) (l_size_of : K.lookup f_size_of = some ⟨oc_size_of, od_size_of, .func (PySem.W.fnOf "size_of" "size_of" (defArgs s_size_of) (defBody s_size_of) (defScope s_size_of) .none kV_size_of dc_size_of pm_size_of an_size_of cd_size_of ct_size_of), sl_size_of⟩) (c_size_of : PySem.W.codeIn K cd_size_of "size_of" = true) (k_size_of : PySem.W.keepIn K (.ref f_size_of) = true)
    (a_bit : PySem.W.nsIn K mainGlobals "bit" = some (some (.ref f_bit))) (l_bit : K.lookup f_bit = some ⟨oc_bit, od_bit, .func (PySem.W.fnOf "bit" "bit" (defArgs s_bit) (defBody s_bit) (defScope s_bit) .none kV_bit dc_bit pm_bit an_bit cd_bit ct_bit), sl_bit⟩) (c_bit : PySem.W.codeIn K cd_bit "bit" = true) (k_bit : PySem.W.keepIn K (.ref f_bit) = true)
    (a_dual_of : PySem.W.nsIn K mainGlobals "dual_of" = some (some (.ref f_dual_of))) (l_dual_of : K.lookup f_dual_of = some ⟨oc_dual_of, od_dual_of, .func (PySem.W.fnOf "dual_of" "dual_of" (defArgs s_dual_of) (defBody s_dual_of) (defScope s_dual_of) .none kV_dual_of dc_dual_of pm_dual_of an_dual_of cd_dual_of ct_dual_of), sl_dual_of⟩) (c_dual_of : PySem.W.codeIn K cd_dual_of "dual_of" = true) (k_dual_of : PySem.W.keepIn K (.ref f_dual_of) = true)
    (a_is_within : PySem.W.nsIn K mainGlobals "is_within" = some (some (.ref f_is_within))) (l_is_within : K.lookup f_is_within = some ⟨oc_is_within, od_is_within, .func (PySem.W.fnOf "is_within" "is_within" (defArgs s_is_within) (defBody s_is_within) (defScope s_is_within) .none kV_is_within dc_is_within pm_is_within an_is_within cd_is_within ct_is_within), sl_is_within⟩) (c_is_within : PySem.W.codeIn K cd_is_within "is_within" = true) (k_is_within : PySem.W.keepIn K (.ref f_is_within) = true)
    (a_rising_tables : PySem.W.nsIn K mainGlobals "rising_tables" = some (some (.ref f_rising_tables))) (l_rising_tables : K.lookup f_rising_tables = some ⟨oc_rising_tables, od_rising_tables, .func (PySem.W.fnOf "rising_tables" "rising_tables" (defArgs s_rising_tables) (defBody s_rising_tables) (defScope s_rising_tables) .none kV_rising_tables dc_rising_tables pm_rising_tables an_rising_tables cd_rising_tables ct_rising_tables), sl_rising_tables⟩) (c_rising_tables : PySem.W.codeIn K cd_rising_tables "rising_tables" = true) (k_rising_tables : PySem.W.keepIn K (.ref f_rising_tables) = true)
    (a_how_many_within : PySem.W.nsIn K mainGlobals "how_many_within" = some (some (.ref f_how_many_within))) (l_how_many_within : K.lookup f_how_many_within = some ⟨oc_how_many_within, od_how_many_within, .func (PySem.W.fnOf "how_many_within" "how_many_within" (defArgs s_how_many_within) (defBody s_how_many_within) (defScope s_how_many_within) .none kV_how_many_within dc_how_many_within pm_how_many_within an_how_many_within cd_how_many_within ct_how_many_within), sl_how_many_within⟩) (c_how_many_within : PySem.W.codeIn K cd_how_many_within "how_many_within" = true) (k_how_many_within : PySem.W.keepIn K (.ref f_how_many_within) = true)
    (a_how_many_around : PySem.W.nsIn K mainGlobals "how_many_around" = some (some (.ref f_how_many_around))) (l_how_many_around : K.lookup f_how_many_around = some ⟨oc_how_many_around, od_how_many_around, .func (PySem.W.fnOf "how_many_around" "how_many_around" (defArgs s_how_many_around) (defBody s_how_many_around) (defScope s_how_many_around) .none kV_how_many_around dc_how_many_around pm_how_many_around an_how_many_around cd_how_many_around ct_how_many_around), sl_how_many_around⟩) (c_how_many_around : PySem.W.codeIn K cd_how_many_around "how_many_around" = true) (k_how_many_around : PySem.W.keepIn K (.ref f_how_many_around) = true)
    (a_count_by_quarters : PySem.W.nsIn K mainGlobals "count_by_quarters" = some (some (.ref f_count_by_quarters))) (l_count_by_quarters : K.lookup f_count_by_quarters = some ⟨oc_count_by_quarters, od_count_by_quarters, .func (PySem.W.fnOf "count_by_quarters" "count_by_quarters" (defArgs s_count_by_quarters) (defBody s_count_by_quarters) (defScope s_count_by_quarters) .none kV_count_by_quarters dc_count_by_quarters pm_count_by_quarters an_count_by_quarters cd_count_by_quarters ct_count_by_quarters), sl_count_by_quarters⟩) (c_count_by_quarters : PySem.W.codeIn K cd_count_by_quarters "count_by_quarters" = true) (k_count_by_quarters : PySem.W.keepIn K (.ref f_count_by_quarters) = true)
    (a_count_rising : PySem.W.nsIn K mainGlobals "count_rising" = some (some (.ref f_count_rising))) (l_count_rising : K.lookup f_count_rising = some ⟨oc_count_rising, od_count_rising, .func (PySem.W.fnOf "count_rising" "count_rising" (defArgs s_count_rising) (defBody s_count_rising) (defScope s_count_rising) .none kV_count_rising dc_count_rising pm_count_rising an_count_rising cd_count_rising ct_count_rising), sl_count_rising⟩) (c_count_rising : PySem.W.codeIn K cd_count_rising "count_rising" = true) (k_count_rising : PySem.W.keepIn K (.ref f_count_rising) = true)
    (a_count_own : PySem.W.nsIn K mainGlobals "count_own" = some (some (.ref f_count_own))) (l_count_own : K.lookup f_count_own = some ⟨oc_count_own, od_count_own, .func (PySem.W.fnOf "count_own" "count_own" (defArgs s_count_own) (defBody s_count_own) (defScope s_count_own) .none kV_count_own dc_count_own pm_count_own an_count_own cd_count_own ct_count_own), sl_count_own⟩) (c_count_own : PySem.W.codeIn K cd_count_own "count_own" = true) (k_count_own : PySem.W.keepIn K (.ref f_count_own) = true)
    (a_is_size : PySem.W.nsIn K mainGlobals "is_size" = some (some (.ref f_is_size))) (l_is_size : K.lookup f_is_size = some ⟨oc_is_size, od_is_size, .func (PySem.W.fnOf "is_size" "is_size" (defArgs s_is_size) (defBody s_is_size) (defScope s_is_size) .none kV_is_size dc_is_size pm_is_size an_is_size cd_is_size ct_is_size), sl_is_size⟩) (c_is_size : PySem.W.codeIn K cd_is_size "is_size" = true) (k_is_size : PySem.W.keepIn K (.ref f_is_size) = true)
    (a_count : PySem.W.nsIn K mainGlobals "count" = some (some (.ref f_count))) (l_count : K.lookup f_count = some ⟨oc_count, od_count, .func (PySem.W.fnOf "count" "count" (defArgs s_count) (defBody s_count) (defScope s_count) .none kV_count dc_count pm_count an_count cd_count ct_count), sl_count⟩) (c_count : PySem.W.codeIn K cd_count "count" = true) (k_count : PySem.W.keepIn K (.ref f_count) = true)
    (z_range : PySem.W.nsIn K mainGlobals "range" = some none)
    (z_len : PySem.W.nsIn K mainGlobals "len" = some none)
    (g_MOST_ELEMENTS : PySem.W.nsIn K mainGlobals "MOST_ELEMENTS" = some (some (.int 6 tk_MOST_ELEMENTS)))
    (g_RANGE : PySem.W.nsIn K mainGlobals "RANGE" = some (some (.int (-2) tk_RANGE))) :
    ∃ fd : FuncData, (∀ (s : Shared) (us : List Value), us.length = (["n", "own"] : List Str).length → BindsTo s fd ⟨us, []⟩ ((["n", "own"] : List Str).zip us)) ∧ ∀ base : Heap, K.In base → base.Ns mainGlobals mg → FnOk P w K mg base CX0 5 fa fd ["n", "own"] (pT t_count) := by
  have e := hfa.symm.trans (PySem.W.mg_of X G a_count)
  cases e
  have F_size_of := fun_mk (st := s_size_of) l_size_of c_size_of k_size_of
  have F_bit := fun_mk (st := s_bit) l_bit c_bit k_bit
  have F_dual_of := fun_mk (st := s_dual_of) l_dual_of c_dual_of k_dual_of
  have F_is_within := fun_mk (st := s_is_within) l_is_within c_is_within k_is_within
  have F_rising_tables := fun_mk (st := s_rising_tables) l_rising_tables c_rising_tables k_rising_tables
  have F_how_many_within := fun_mk (st := s_how_many_within) l_how_many_within c_how_many_within k_how_many_within
  have F_how_many_around := fun_mk (st := s_how_many_around) l_how_many_around c_how_many_around k_how_many_around
  have F_count_by_quarters := fun_mk (st := s_count_by_quarters) l_count_by_quarters c_count_by_quarters k_count_by_quarters
  have F_count_rising := fun_mk (st := s_count_rising) l_count_rising c_count_rising k_count_rising
  have F_count_own := fun_mk (st := s_count_own) l_count_own c_count_own k_count_own
  have F_is_size := fun_mk (st := s_is_size) l_is_size c_is_size k_is_size
  have F_count := fun_mk (st := s_count) l_count c_count k_count
  have b_size_of := F_size_of.binds (ps := ["n"]) fun _ _ _ _ _ _ us hl => match us, hl with | [_], _ => rfl
  have b_bit := F_bit.binds (ps := ["t", "x"]) fun _ _ _ _ _ _ us hl => match us, hl with | [_, _], _ => rfl
  have b_dual_of := F_dual_of.binds (ps := ["n", "t"]) fun _ _ _ _ _ _ us hl => match us, hl with | [_, _], _ => rfl
  have b_is_within := F_is_within.binds (ps := ["one", "other"]) fun _ _ _ _ _ _ us hl => match us, hl with | [_, _], _ => rfl
  have b_rising_tables := F_rising_tables.binds (ps := ["n"]) fun _ _ _ _ _ _ us hl => match us, hl with | [_], _ => rfl
  have b_how_many_within := F_how_many_within.binds (ps := ["some"]) fun _ _ _ _ _ _ us hl => match us, hl with | [_], _ => rfl
  have b_how_many_around := F_how_many_around.binds (ps := ["some"]) fun _ _ _ _ _ _ us hl => match us, hl with | [_], _ => rfl
  have b_count_by_quarters := F_count_by_quarters.binds (ps := ["n"]) fun _ _ _ _ _ _ us hl => match us, hl with | [_], _ => rfl
  have b_count_rising := F_count_rising.binds (ps := ["n"]) fun _ _ _ _ _ _ us hl => match us, hl with | [_], _ => rfl
  have b_count_own := F_count_own.binds (ps := ["n"]) fun _ _ _ _ _ _ us hl => match us, hl with | [_], _ => rfl
  have b_is_size := F_is_size.binds (ps := ["n"]) fun _ _ _ _ _ _ us hl => match us, hl with | [_], _ => rfl
  refine ⟨PySem.W.fnOf "count" "count" (defArgs s_count) (defBody s_count) (defScope s_count) .none kV_count dc_count pm_count an_count cd_count ct_count, fun s us hu => match us, hu with | [_, _], _ => .of_eq rfl, fun base _ _ => ?_⟩
  have R_size_of : Rdy P w K mg base "size_of" 1 ["n"] (pV r_size_of) := ⟨_, _, PySem.W.mg_of X G a_size_of, k_size_of, b_size_of, ok_size_of F_size_of⟩
  have R_bit : Rdy P w K mg base "bit" 1 ["t", "x"] (pV r_bit) := ⟨_, _, PySem.W.mg_of X G a_bit, k_bit, b_bit, ok_bit F_bit⟩
  have R_dual_of : Rdy P w K mg base "dual_of" 2 ["n", "t"] (pV r_dual_of) := ⟨_, _, PySem.W.mg_of X G a_dual_of, k_dual_of, b_dual_of, ok_dual_of F_dual_of R_size_of R_bit (PySem.W.mg_none_of X G z_range)⟩
  have R_is_within : Rdy P w K mg base "is_within" 1 ["one", "other"] (pV r_is_within) := ⟨_, _, PySem.W.mg_of X G a_is_within, k_is_within, b_is_within, ok_is_within F_is_within⟩
  have R_rising_tables : Rdy P w K mg base "rising_tables" 2 ["n"] (pL r_rising_tables) := ⟨_, _, PySem.W.mg_of X G a_rising_tables, k_rising_tables, b_rising_tables, ok_rising_tables F_rising_tables R_size_of R_is_within (PySem.W.mg_none_of X G z_range)⟩
  have R_how_many_within : Rdy P w K mg base "how_many_within" 2 ["some"] (pD K cw) := ⟨_, _, PySem.W.mg_of X G a_how_many_within, k_how_many_within, b_how_many_within, ok_how_many_within F_how_many_within R_is_within (PySem.W.mg_none_of X G z_len)⟩
  have R_how_many_around : Rdy P w K mg base "how_many_around" 2 ["some"] (pD K ca) := ⟨_, _, PySem.W.mg_of X G a_how_many_around, k_how_many_around, b_how_many_around, ok_how_many_around F_how_many_around R_is_within (PySem.W.mg_none_of X G z_len)⟩
  have R_count_by_quarters : Rdy P w K mg base "count_by_quarters" 3 ["n"] (pV r_count_by_quarters) := ⟨_, _, PySem.W.mg_of X G a_count_by_quarters, k_count_by_quarters, b_count_by_quarters, ok_count_by_quarters F_count_by_quarters R_rising_tables R_how_many_within R_how_many_around⟩
  have R_count_rising : Rdy P w K mg base "count_rising" 4 ["n"] (pV r_count_rising) := ⟨_, _, PySem.W.mg_of X G a_count_rising, k_count_rising, b_count_rising, ok_count_rising F_count_rising R_rising_tables R_count_by_quarters (PySem.W.mg_none_of X G z_len)⟩
  have R_count_own : Rdy P w K mg base "count_own" 3 ["n"] (pV r_count_own) := ⟨_, _, PySem.W.mg_of X G a_count_own, k_count_own, b_count_own, ok_count_own F_count_own R_dual_of R_is_within R_rising_tables (PySem.W.mg_none_of X G z_len)⟩
  have R_is_size : Rdy P w K mg base "is_size" 1 ["n"] (pV r_is_size) := ⟨_, _, PySem.W.mg_of X G a_is_size, k_is_size, b_is_size, ok_is_size F_is_size ⟨_, PySem.W.mg_of X G g_MOST_ELEMENTS⟩⟩
  exact ok_count F_count R_is_size R_count_own R_count_rising ⟨_, PySem.W.mg_of X G g_RANGE⟩
end RT
open PySem PySem.W PyProof.Rows
set_option maxRecDepth 100000 in
set_option maxHeartbeats 8000000 in
theorem PySem.Challenge.cw_risingtables_s07_count_holds : PySem.Challenge.rw_risingtables_s07_count.Holds := by
  w_on; k_headS; (case hw => exact ⟨[.int 0, .int 0], by decide +kernel, by decide +kernel⟩)
  k_fillS
  refine L2.walk_specK (r := PySem.Challenge.rw_risingtables_s07_count) (k := 5) (CX := L2.CX0) (ps := ["n", "own"]) (sp := fun K => RT.pT RT.t_count) (by decide +kernel) rfl rfl ⟨rfl, by decide, by decide⟩ (fun w h Y => PySem.W.kIn_of Y) ?F ?S (fun _ _ _ _ z => z)
  case F =>
    intro w mg fa h Y KX G hmg
    refine' RT.all_mk KX G hmg ?a_size_of ?l_size_of ?c_size_of ?k_size_of ?a_bit ?l_bit ?c_bit ?k_bit ?a_dual_of ?l_dual_of ?c_dual_of ?k_dual_of ?a_is_within ?l_is_within ?c_is_within ?k_is_within ?a_rising_tables ?l_rising_tables ?c_rising_tables ?k_rising_tables ?a_how_many_within ?l_how_many_within ?c_how_many_within ?k_how_many_within ?a_how_many_around ?l_how_many_around ?c_how_many_around ?k_how_many_around ?a_count_by_quarters ?l_count_by_quarters ?c_count_by_quarters ?k_count_by_quarters ?a_count_rising ?l_count_rising ?c_count_rising ?k_count_rising ?a_count_own ?l_count_own ?c_count_own ?k_count_own ?a_is_size ?l_is_size ?c_is_size ?k_is_size ?a_count ?l_count ?c_count ?k_count ?z_range ?z_len ?g_MOST_ELEMENTS ?g_RANGE
    (case a_size_of => k_is); (case l_size_of => k_is); (case c_size_of => k_is); (case k_size_of => k_is); (case a_bit => k_is); (case l_bit => k_is); (case c_bit => k_is); (case k_bit => k_is); (case a_dual_of => k_is); (case l_dual_of => k_is); (case c_dual_of => k_is); (case k_dual_of => k_is); (case a_is_within => k_is); (case l_is_within => k_is); (case c_is_within => k_is); (case k_is_within => k_is); (case a_rising_tables => k_is); (case l_rising_tables => k_is); (case c_rising_tables => k_is); (case k_rising_tables => k_is); (case a_how_many_within => k_is); (case l_how_many_within => k_is); (case c_how_many_within => k_is); (case k_how_many_within => k_is); (case a_how_many_around => k_is); (case l_how_many_around => k_is); (case c_how_many_around => k_is); (case k_how_many_around => k_is); (case a_count_by_quarters => k_is); (case l_count_by_quarters => k_is); (case c_count_by_quarters => k_is); (case k_count_by_quarters => k_is); (case a_count_rising => k_is); (case l_count_rising => k_is); (case c_count_rising => k_is); (case k_count_rising => k_is); (case a_count_own => k_is); (case l_count_own => k_is); (case c_count_own => k_is); (case k_count_own => k_is); (case a_is_size => k_is); (case l_is_size => k_is); (case c_is_size => k_is); (case k_is_size => k_is); (case a_count => k_is); (case l_count => k_is); (case c_count => k_is); (case k_count => k_is); (case z_range => k_is); (case z_len => k_is); (case g_MOST_ELEMENTS => k_is); (case g_RANGE => k_is)
  case S =>
    intro K H xs a hO hwi hask hx
    cases hx with
    | cons h1 h2 =>
      cases h2 with
      | cons h2 h3 =>
        cases h3
        cases h1
        cases h2
        exact ⟨_, ⟨a.1, a.2.1, rfl, rfl⟩, fun H' p hp => .lst (L2.SqL.of hp) (L2.dw_ints _)⟩
#print axioms PySem.Challenge.cw_risingtables_s07_count_holds
