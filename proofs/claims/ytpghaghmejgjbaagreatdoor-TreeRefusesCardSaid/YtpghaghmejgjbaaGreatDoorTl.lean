/- Trees: rows of nodes of the call's own; where a node stands. -/
import Derived.Test.YtpghaghmejgjbaaGreatDoorTj
namespace Go.Proofs.YtpghaghmejgjbaaGreatDoor.Tree
open Go.RowKit
open Path (Bs bs mk bs_mk mk_bs tl_bs splitE splitL MaxC parD parE parN)
set_option linter.unusedSimpArgs false
set_option linter.unusedVariables false

theorem infoN : (Tryz.prog.info? 25).map (fun i => (i.zero, i.size, i.bytes)) = some (some (.agg #[.string ⟨#[]⟩, .bool false, .int .i64 0, .slice none 0 0, .int .i64 0]), 5, 64) := by kernel_rfl
theorem etN : ET Tryz.prog 22 25 5 64 := ET.of Tryz.underlying22 infoN rfl (by decide) (by simp [Value.cells, Value.oneCell'])
def flatN (l : List Nd) : List Value := l.flatMap encN
theorem flatN_len (l : List Nd) : (flatN l).length = l.length * 5 := flat_length encN 5 encN_len l
theorem flatN_snoc (l : List Nd) (x : Nd) : flatN (l ++ [x]) = flatN l ++ encN x := by simp [flatN]
/-- A slice of nodes of the call's own. -/
structure OwnN (w w' : World) (v : Value) (q : List Nd) : Prop where
  own : w'.ownsRow 0 25 5 v q.length (flatN q)
  new : ∀ g, v.ownBlock = some g → w.heap.size ≤ g
  bl : ∀ x ∈ q, Rd w' 3 encB x.bv x.blocks
theorem OwnN.rd {w w' : World} {v : Value} {q : List Nd} (h : OwnN w w' v q) : RdN w' v q := ⟨Rd.of_own encN_len h.own, h.bl⟩
theorem OwnN.nil (w w' : World) : OwnN w w' (.slice none 0 0) [] := ⟨World.ownsRow_nil _ _ _ _, fun g h => by simp [Value.ownBlock] at h, fun x hx => by cases hx⟩
theorem own_ltN {w : World} {base e size n : Nat} {v : Value} {xs : List Value} (h : w.ownsRow base e size v n xs) (g : Nat) (hg : v.ownBlock = some g) : g < w.heap.size := by
  rcases h.2 with ⟨rfl, _⟩ | ⟨g', cap, cur, rfl, _, hgg, _⟩
  · simp [Value.ownBlock] at hg
  · have : g' = g := by simpa [Value.ownBlock] using hg
    subst this
    exact lt_of_block hgg
theorem OwnN.below {w w' w'' : World} {v : Value} {q : List Nd} (h : OwnN w w' v q) (hb : Below w'.heap.size w' w'') : OwnN w w'' v q :=
  ⟨below_ownsRow hb h.own (fun g hg => own_ltN h.own g hg), h.new, fun x hx => (h.bl x hx).below hb (Nat.le_refl _)⟩
theorem OwnN.up {w w1 w' : World} {v : Value} {q : List Nd} (h : OwnN w1 w' v q) (hw : w.heap.size ≤ w1.heap.size) : OwnN w w' v q := ⟨h.own, fun g hg => Nat.le_trans hw (h.new g hg), h.bl⟩
/-- Rows of blocks that lie in what was there ahead of the call stay, whatever the call does with its own. -/
theorem RdN.mem {w : World} {v : Value} {l : List Nd} (h : RdN w v l) {w' : World} (hb : Below w.heap.size w w') {x : Nd} (hx : x ∈ l) : Rd w' 3 encB x.bv x.blocks := (h.bl x hx).below hb (Nat.le_refl _)

theorem right_rises {l : List Nd} (h : rightT l = true) : Rises l := by
  simp only [rightT, rightA, Bool.and_eq_true] at h
  exact rises_of fun j hj => List.all_eq_true.1 h.1.2 j (List.mem_range.2 hj)
theorem rises_inj {l : List Nd} (h : Rises l) {i j : Nat} {x y : Nd} (hx : l[i]? = some x) (hy : l[j]? = some y) (e : bs x.path = bs y.path) : i = j := by
  rcases Nat.lt_trichotomy i j with hlt | heq | hgt
  · have := rises_get h hx hy hlt
    rw [e, lt_irr] at this; cases this
  · exact heq
  · have := rises_get h hy hx hgt
    rw [e, lt_irr] at this; cases this
theorem find_at {l : List Nd} (h : Rises l) {i : Nat} {x : Nd} (hx : l[i]? = some x) : l.find? (fun y => bs y.path == bs x.path) = some x := by
  cases hf : l.find? (fun y => bs y.path == bs x.path) with
  | none =>
    rw [List.find?_eq_none] at hf
    have := hf x (List.mem_of_getElem? hx)
    simp at this
  | some y =>
    obtain ⟨j, hj, hjy⟩ := List.mem_iff_getElem.1 (List.mem_of_find?_eq_some hf)
    have hy : l[j]? = some y := by simp [hj, hjy]
    have hp := List.find?_some hf
    have := rises_inj h hy hx (by simpa using hp)
    subst this
    exact hy.symm.trans hx
end Go.Proofs.YtpghaghmejgjbaaGreatDoor.Tree
