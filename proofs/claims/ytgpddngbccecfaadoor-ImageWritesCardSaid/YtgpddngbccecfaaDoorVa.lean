/- Spaces, in plain words; a set of numbers in a map, told by a function. -/
import Derived.Test.YtgpddngbccecfaaDoorQc
import Derived.Test.YtgpddngbccecfaaDoorQe
import Derived.Test.YtgpddngbccecfaaDoorLf
namespace Go.Proofs.YtgpddngbccecfaaDoor.Space
open Go.RowKit Go.Maps Go.WideMaps
open Path (Bs bs mk bs_mk mk_bs tl_bs MaxC)
open Tree
open Quota (overL)
set_option linter.unusedSimpArgs false
set_option linter.unusedVariables false
theorem law : Keyed Tryd.prog 3 := int_keyed Tryd.underlying3
theorem zeroB (w : World) : (zeroValue 4).run Tryd.prog w = .ok (.bool false) w := by kernel_rfl
theorem plain_bool {v : Value} {z : DataW Unit × List MemPlace} (h : plainElem Tryd.prog 4 v = some z) : ∃ x, v = .bool x ∧ z = (.lit (.bool x), []) := by
  have hu := Tryd.underlying4
  cases v <;> simp [plainElem, hu] at h
  all_goals exact ⟨_, rfl, h.symm⟩
structure MapB (w : World) (b n : Nat) (f : Int → Bool) : Prop where
  own : ∃ D : DataW Unit, w.ownsMap Tryd.prog 3 (plainElem Tryd.prog 4) b n D ∧ ∀ i : Int, D.atKey (.int .i64 i) (.lit (.bool false)) = .lit (.bool (f i))
section
variable {w : World} {b n : Nat} {f : Int → Bool}
theorem MapB.made (w : World) : MapB (w.alloc (.map #[] 0)) w.heap.size 0 (fun _ => false) :=
  ⟨.map [], World.ownsMap_made _ _ _ _, fun _ => rfl⟩
theorem MapB.lt (h : MapB w b n f) : b < w.heap.size := by obtain ⟨D, h1, _⟩ := h.own; exact h1.lt
theorem MapB.below {w' : World} {B : Nat} (h : MapB w b n f) (hb : Below B w w') (hB : b < B) : MapB w' b n f := by
  obtain ⟨D, ⟨es, clock, g1, g2⟩, h2⟩ := h.own
  exact ⟨D, ⟨es, clock, (hb.block b hB).trans g1, g2⟩, h2⟩
theorem MapB.mono {n' : Nat} (h : MapB w b n f) (hn : n ≤ n') : MapB w b n' f := by
  obtain ⟨D, h1, h2⟩ := h.own
  exact ⟨D, h1.mono hn, h2⟩
theorem MapB.cong {g : Int → Bool} (h : MapB w b n f) (hg : ∀ s, g s = f s) : MapB w b n g := by
  obtain rfl : g = f := funext hg
  exact h
theorem wfI {i : Int} (h : inI i) : (Lit.int .i64 i).wf = true := by
  obtain ⟨h1, h2⟩ := h
  simp [Lit.wf, IntKind.min, IntKind.max, IntKind.signed, IntKind.bits]
  omega
theorem MapB.look (h : MapB w b n f) {i : Int} (hi : inI i) : (Instr.lookup 68 (.map (some b)) (.int .i64 i) false).run Tryd.prog w = .ok (.bool (f i)) w := by
  obtain ⟨D, h1, h2⟩ := h.own
  obtain ⟨v, ps, hr, hv⟩ := h1.lookup law Tryd.underlying68 (zeroB w) (plainElem_bool Tryd.underlying4 false) (keyOf_int_mk Tryd.underlying3 (wfI hi))
  obtain ⟨x, rfl, hx⟩ := plain_bool hv
  simp only [Prod.mk.injEq] at hx
  have := hx.1.symm.trans (h2 i)
  simp only [DataW.lit.injEq, Lit.bool.injEq] at this
  rw [hr, this]
theorem MapB.upd {ops : Array Oper} {rest : List Oper} {o : Oper} {a : Act} {Q : Exit → Act → World → Prop} (h : MapB w b n f) (hn : n < maxLen) (hgd : o.guard = none) (m x v : Operand) (hop : o.op = Op.mapUpdate 68 m x v)
    (hm : a.eval m = .map (some b)) {i : Int} (hx : a.eval x = .int .i64 i) (hi : inI i) {c : Bool} (hv : a.eval v = .bool c)
    (hK : ∀ w', MapB w' b (n + 1) (fun s => if s = i then c else f s) → w.grownBy w' (some b) → wpList Tryd.prog ops Q rest (a.put o.dst undef) w') : wpList Tryd.prog ops Q (o :: rest) a w := by
  obtain ⟨D, h1, h2⟩ := h.own
  have hkey := keyOf_int_mk (P := Tryd.prog) Tryd.underlying3 (wfI hi)
  refine wpList_mapUpdate_own w hgd m x v 68 hop 3 4 law Tryd.underlying68 _ b n D hm h1 hn _ _ _ hx hv hkey _ [] (plainElem_bool Tryd.underlying4 c) ?_
  intro w1 hown hg
  refine hK w1 ⟨_, hown, fun s => ?_⟩ hg
  by_cases e : s = i
  · subst e
    simp only [if_pos]
    exact atKey_put_same (k := .int .i64 s) h1.isMap trivial _ _
  · rw [if_neg e, atKey_put_other (fun hh => e (by injection hh))]
    exact h2 s
end
end Go.Proofs.YtgpddngbccecfaaDoor.Space
