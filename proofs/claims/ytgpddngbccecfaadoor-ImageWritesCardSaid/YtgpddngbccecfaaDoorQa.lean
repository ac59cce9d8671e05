/- Quotas, in plain words: how many nodes stand under a path; a map from texts to numbers, told by a function. -/
import Derived.Test.YtgpddngbccecfaaDoorGb
import Derived.Test.YtgpddngbccecfaaDoorGa
import Derived.Maps.OwnSet
import Derived.StringKeys
namespace Go.Proofs.YtgpddngbccecfaaDoor.Quota
open Go.RowKit Go.Maps Go.WideMaps
open Path (Bs bs mk bs_mk mk_bs tl_bs splitE splitL MaxC parD parE parN underL under_iff under_anti)
open Tree
set_option linter.unusedSimpArgs false
set_option linter.unusedVariables false

def cntN (l : List Nd) (p : Bs) : Nat := (l.filter fun x => underL p (bs x.path)).length
theorem cnt_le (l : List Nd) (p : Bs) : cntN l p ≤ l.length := List.length_filter_le _ _
theorem cnt_next {l : List Nd} {k : Nat} {x : Nd} (hx : l[k]? = some x) (p : Bs) : cntN (l.take (k + 1)) p = cntN (l.take k) p + if underL p (bs x.path) = true then 1 else 0 := by
  rw [cntN, List.take_add_one, hx, List.filter_append, List.length_append]
  cases h : underL p (bs x.path) <;> simp [h, cntN]

/-- The texts that have been counted when the way up from X has come to p: those that X is under, and that are under p. -/
def onWay (X p s : Bs) : Bool := underL s X && underL p s
theorem way_start {X : Bs} (hX : splitE X = 0) (s : Bs) : onWay X X s = decide (s = X) := by
  have hself : underL X X = true := under_iff.2 ⟨hX, hX, List.prefix_refl _⟩
  by_cases h : s = X
  · subst h; rw [onWay, hself]; simp
  · rw [decide_eq_false h, onWay, Bool.eq_false_iff]
    intro hh
    rw [Bool.and_eq_true] at hh
    exact h (under_anti hh.1 hh.2)
theorem way_end {X : Bs} (hX : splitE X = 0) (s : Bs) : onWay X [47] s = underL s X := by
  rw [onWay]
  cases h : underL s X
  · rfl
  · rw [Bool.true_and]
    exact under_iff.2 ⟨by decide, (under_iff.1 h).1, by rw [show splitL [47] = [] by decide]; exact List.nil_prefix⟩
/-- One step up. -/
structure Up (X p : Bs) : Prop where
  E : parE p = 0
  dE : splitE (parD p) = 0
  up : underL (parD p) X = true
  less : (splitL (parD p)).length + 1 = (splitL p).length
  new : onWay X p (parD p) = false
  way : ∀ s, onWay X (parD p) s = (onWay X p s || decide (s = parD p))
theorem up_of {X p : Bs} (h : underL p X = true) (hp : p ≠ [47]) : Up X p := by
  obtain ⟨hE, hX, hpre⟩ := under_iff.1 h
  have hL : splitL p ≠ [] := fun e => hp (Path.split_inj hE (by decide) (by rw [e]; decide))
  obtain ⟨init, n, pre, hpar⟩ := Path.par_yes hE hL
  have hm := Path.par_more hE hpar
  have hlen : (splitL (parD p)).length + 1 = (splitL p).length := by rw [hpar.D, hm.dL, hpar.L]; simp
  have hdp : underL (parD p) p = true := by rw [hpar.D]; exact hm.up
  have hdX := Path.under_trans hdp h
  have hnew : underL p (parD p) = false := by rw [hpar.D]; exact hm.down
  have hd : splitE (parD p) = 0 := by rw [hpar.D]; exact hm.dE
  refine ⟨hpar.E, hd, hdX, hlen, by rw [onWay, hnew, Bool.and_false], fun s => ?_⟩
  rw [Bool.eq_iff_iff]
  simp only [onWay, Bool.and_eq_true, Bool.or_eq_true, decide_eq_true_eq]
  constructor
  · rintro ⟨h1, h2⟩
    obtain ⟨s1, _, s3⟩ := under_iff.1 h1
    obtain ⟨_, _, t3⟩ := under_iff.1 h2
    by_cases hle : (splitL p).length ≤ (splitL s).length
    · exact .inl ⟨h1, under_iff.2 ⟨hE, s1, List.prefix_of_prefix_length_le hpre s3 hle⟩⟩
    · right
      have hl2 := t3.length_le
      exact Path.split_inj s1 hd (t3.eq_of_length (by omega)).symm
  · rintro (⟨h1, h2⟩ | rfl)
    · exact ⟨h1, Path.under_trans hdp h2⟩
    · exact ⟨hdX, under_iff.2 ⟨hd, hd, List.prefix_refl _⟩⟩
theorem way_count {X : Bs} (hX : splitE X = 0) : (splitL X).length ≤ 6 := Path.split_six X

theorem law : Keyed Tryd.prog 9 := string_keyed Tryd.underlying9
theorem zeroE (w : World) : (zeroValue 3).run Tryd.prog w = .ok (.int .i64 0) w := by kernel_rfl
structure MapI (w : World) (b n : Nat) (e : Bool) (f : Bs → Int) : Prop where
  own : ∃ D : DataW Unit, w.ownsMap Tryd.prog 9 (plainElem Tryd.prog 3) b n D ∧ (∀ s : Bs, D.atKey (.string s) (.lit (.int .i64 0)) = .lit (.int .i64 (f s))) ∧ ((((Maps.size D : Nat) : Int) == 0) = e)
section
variable {w : World} {b n : Nat} {e : Bool} {f : Bs → Int}
theorem MapI.made (w : World) : MapI (w.alloc (.map #[] 0)) w.heap.size 0 true (fun _ => 0) :=
  ⟨.map [], World.ownsMap_made _ _ _ _, fun _ => rfl, rfl⟩
theorem MapI.lt (h : MapI w b n e f) : b < w.heap.size := by obtain ⟨D, h1, _⟩ := h.own; exact h1.lt
theorem MapI.below {w' : World} {B : Nat} (h : MapI w b n e f) (hb : Below B w w') (hB : b < B) : MapI w' b n e f := by
  obtain ⟨D, ⟨es, clock, g1, g2⟩, h2⟩ := h.own
  exact ⟨D, ⟨es, clock, (hb.block b hB).trans g1, g2⟩, h2⟩
theorem MapI.mono {n' : Nat} (h : MapI w b n e f) (hn : n ≤ n') : MapI w b n' e f := by
  obtain ⟨D, h1, h2⟩ := h.own
  exact ⟨D, h1.mono hn, h2⟩
theorem MapI.cong {g : Bs → Int} (h : MapI w b n e f) (hg : ∀ s, g s = f s) : MapI w b n e g := by
  obtain rfl : g = f := funext hg
  exact h
theorem MapI.look (h : MapI w b n e f) {key : ByteArray} (hk : key.size ≤ maxLen) : (Instr.lookup 84 (.map (some b)) (.string key) false).run Tryd.prog w = .ok (.int .i64 (f (bs key))) w := by
  obtain ⟨D, h1, h2, _⟩ := h.own
  obtain ⟨c, hr, hat, _⟩ := h1.lookup_int law Tryd.underlying84 Tryd.underlying3 (zeroE w) (keyOf_string_mk Tryd.underlying9 hk)
  rw [hr, (Lit.int.inj (DataW.lit.inj (hat.symm.trans (h2 (bs key))))).2]
theorem MapI.len (h : MapI w b n e f) : ∃ m : Nat, (∀ ty, (Builtin.len_ #[84] ty #[.map (some b)]).run Tryd.prog w = .ok (.int .i64 (m : Int)) w) ∧ ((m : Int) == 0) = e := by
  obtain ⟨D, h1, _, h3⟩ := h.own
  exact ⟨_, fun ty => h1.len Tryd.underlying84 ty, h3⟩
theorem MapI.upd {ops : Array Oper} {rest : List Oper} {o : Oper} {a : Act} {Q : Exit → Act → World → Prop} (h : MapI w b n e f) (hn : n < maxLen) (hgd : o.guard = none) (m x v : Operand) (hop : o.op = Op.mapUpdate 84 m x v)
    (hm : a.eval m = .map (some b)) {key : ByteArray} (hx : a.eval x = .string key) (hk : key.size ≤ maxLen) {c : Int} (hv : a.eval v = .int .i64 c) (hc : (Lit.int .i64 c).wf = true)
    (hK : ∀ w', MapI w' b (n + 1) false (fun s => if s = bs key then c else f s) → w.grownBy w' (some b) → wpList Tryd.prog ops Q rest (a.put o.dst undef) w') : wpList Tryd.prog ops Q (o :: rest) a w := by
  obtain ⟨D, h1, h2, _⟩ := h.own
  have hkey := keyOf_string_mk (P := Tryd.prog) Tryd.underlying9 hk
  refine wpList_mapUpdate_own w hgd m x v 84 hop 9 3 law Tryd.underlying84 _ b n D hm h1 hn _ _ _ hx hv hkey _ [] (plainElem_int Tryd.underlying3 hc) ?_
  intro w1 hown hg
  refine hK w1 ⟨_, hown, fun s => ?_, ?_⟩ hg
  · by_cases e : s = bs key
    · subst e
      simp only [if_pos]
      exact atKey_put_same (k := .string key.data.toList) h1.isMap trivial _ _
    · rw [if_neg e, atKey_put_other (fun hh => e (by injection hh))]
      exact h2 s
  · rw [size_put (h1.tidy law)]
    refine beq_false_of_ne ?_
    split
    · rename_i hh
      intro h0
      obtain ⟨es, rfl, _⟩ := h1.tidy law
      have : es = [] := List.eq_nil_of_length_eq_zero (by simpa [Maps.size] using h0)
      subst this
      simp [Maps.has] at hh
    · omega
end
end Go.Proofs.YtgpddngbccecfaaDoor.Quota
