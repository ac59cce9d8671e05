/- Trees: slices.Clone of blocks; rows of nodes whose blocks are the call's own, too. -/
import Derived.Test.YtpghaghmejgjbaaGreatDoorTp
import Derived.Test.YtpghaghmejgjbaaGreatDoorTm
import Derived.Test.YtpghaghmejgjbaaGreatDoorKb
import Derived.Lib.SliceRun
import Derived.Laws.Externs
namespace Go.Proofs.YtpghaghmejgjbaaGreatDoor.Tree
open Go.RowKit
open Path (Bs bs mk bs_mk mk_bs tl_bs splitE splitL MaxC parD parE parN)
set_option linter.unusedSimpArgs false
set_option linter.unusedVariables false

theorem infoB : (Tryz.prog.info? 65).map (fun i => (i.zero, i.size, i.bytes)) = some (some (.agg #[.int .i64 0, .int .i64 0, .int .i64 0]), 3, 24) := by kernel_rfl
theorem etB : ET Tryz.prog 23 65 3 24 := ET.of Tryz.underlying23 infoB rfl (by decide) (by simp [Value.cells, Value.oneCell'])
def flatB (l : List Bl) : List Value := l.flatMap encB
theorem flatB_len (l : List Bl) : (flatB l).length = l.length * 3 := flat_length encB 3 encB_len l
theorem flatB_one (l : List Bl) : ∀ u ∈ flatB l, u.oneCell' = true := by
  intro u hu
  simp only [flatB, List.mem_flatMap] at hu
  obtain ⟨x, _, hx⟩ := hu
  simp only [encB, List.mem_cons, List.not_mem_nil, or_false] at hx
  rcases hx with rfl | rfl | rfl <;> rfl
theorem rd_flatB {w : World} {v : Value} {l : List Bl} (h : Rd w 3 encB v l) {ad : Addr} {cap : Nat} (hv : v = .slice (some ad) l.length cap) : ∀ W, Below w.heap.size w W → ∀ j u, (flatB l)[j]? = some u → W.cell? (ad.add j) = some u := by
  intro W hW j u hu
  obtain ⟨ao, cap', hv', _, _, hcell⟩ := h
  rw [hv] at hv'
  simp only [Value.slice.injEq, true_and] at hv'
  obtain ⟨rfl, rfl⟩ := hv'
  have hj := (List.getElem?_eq_some_iff.1 hu).1
  rw [flatB_len] at hj
  have hi : j / 3 < l.length := Nat.div_lt_of_lt_mul (by omega)
  have hx : l[j / 3]? = some l[j / 3] := by simp [hi]
  obtain ⟨b, off, e, hlt, hcl⟩ := hcell _ _ hx
  simp only [Option.some.injEq] at e
  subst e
  have e2 : j = j / 3 * 3 + j % 3 := by omega
  have := flat_get encB 3 encB_len l (j / 3) (j % 3) _ hx (Nat.mod_lt _ (by omega))
  rw [← e2] at this
  have h3 := hcl (j % 3) u (by rw [← this]; exact hu)
  rw [Addr.add_lit, hW.cell (p := ⟨b, off + j, none⟩) hlt, ← h3]
  congr 2
  omega
/-- A slice of blocks of the call's own. -/
structure OwnB (w w' : World) (v : Value) (q : List Bl) : Prop where
  own : w'.ownsRow 0 65 3 v q.length (flatB q)
  new : ∀ g, v.ownBlock = some g → w.heap.size ≤ g
theorem OwnB.nil (w w' : World) : OwnB w w' (.slice none 0 0) [] := ⟨World.ownsRow_nil _ _ _ _, fun g h => by simp [Value.ownBlock] at h⟩
theorem OwnB.rd {w w' : World} {v : Value} {q : List Bl} (h : OwnB w w' v q) : Rd w' 3 encB v q := Rd.of_own encB_len h.own
theorem OwnB.below {w w' w'' : World} {v : Value} {q : List Bl} (h : OwnB w w' v q) (hb : Below w'.heap.size w' w'') : OwnB w w'' v q :=
  ⟨below_ownsRow hb h.own (fun g hg => own_ltN h.own g hg), h.new⟩
theorem OwnB.up {w w1 w' : World} {v : Value} {q : List Bl} (h : OwnB w1 w' v q) (hw : w.heap.size ≤ w1.heap.size) : OwnB w w' v q := ⟨h.own, fun g hg => Nat.le_trans hw (h.new g hg)⟩
theorem OwnB.grown {w w' w'' : World} {v : Value} {q : List Bl} {row : Option Nat} (h : OwnB w w' v q) (hg : w'.grownBy w'' row) (hne : v.ownBlock = none ∨ v.ownBlock ≠ row) : OwnB w w'' v q := ⟨h.own.kept hg hne, h.new⟩
set_option maxHeartbeats 2000000 in
theorem cloneB_calls (w : World) (v : Value) (l : List Bl) (h : Rd w 3 encB v l) (hn : l.length ≤ 5864062014805) :
    Calls Tryz.prog 74 #[v] w fun e w' => ∃ v', e = .returned v' ∧ OwnB w w' v' l ∧ Below w.heap.size w w' := by
  have q50 : ∀ (w : World) (a : Option Addr) (n c n' c' : Nat), (binOp .eql 23 (.slice a n c) (.slice none n' c')).run Tryz.prog w = .ok (.bool a.isNone) w := fun w a n c n' c' => Lib.run_eql_slice_nil w _ _ a n c n' c' Tryz.underlying23
  have hfl := fun ad cap (hv : v = .slice (some ad) l.length cap) => rd_flatB h hv
  obtain ⟨ao, cap, rfl, hcap, hcm, hcell⟩ := rd_cellsB h
  have Hfl := Lib.hid hfl; clear hfl h
  have Hcell := Lib.hid hcell; clear hcell
  cases ao with
  | none =>
    have hl : l = [] := by
      cases l with
      | nil => rfl
      | cons x t => obtain ⟨b, off, e, _⟩ := Hcell.out w (Below.refl _ _) 0 x rfl; cases e
    subst hl
    clear Hcell
    go_enter Tryz.func74, Tryz.ntmps74
    go_wp2
    go_ret
    exact ⟨_, rfl, OwnB.nil _ _, Below.refl _ _⟩
  | some ad =>
    clear Hcell
    have hown : (w.alloc (.cells #[] 65)).ownsRow 0 65 3 (.slice (some ⟨w.heap.size, 0, none⟩) 0 0) 0 [] := ⟨rfl, .inr ⟨w.heap.size, 0, #[], rfl, Nat.zero_le _, heap_alloc_new w _, Nat.le_refl _, by decide, rfl, rfl⟩⟩
    have hb : Below w.heap.size w (w.alloc (.cells #[] 65)) := (Below.refl _ _).alloc (Nat.le_refl _) _
    go_enter Tryz.func74, Tryz.ntmps74
    go_wp2_with (at_builtin; (with_reducible refine etB.wpList_app hown (m := l.length) (c := cap) (ao := some ad) (news := flatB l) (flatB_len l) (fun h => by cases h) (fun ad' h => by cases h; exact Hfl.out ad cap rfl _ hb) (flatB_one l) (by omega) (by unfold maxLen; omega) rfl (.tmp 5) (.tmp 6) rfl rfl rfl ?_); intro v1 w1 own1 grow1 at1 nil1)
    go_ret
    rw [Nat.zero_add, List.nil_append] at own1
    refine ⟨v1, rfl, ⟨own1, fun g hg => ?_⟩, hb.grown grow1 hb.size (fun q hq => ?_)⟩
    · rcases at1 with e | e
      · rw [e] at hg; simp [Value.ownBlock] at hg; omega
      · rw [e] at hg; simp at hg; omega
    · simp [Value.ownBlock] at hq; omega

/-- A node without the place of its blocks. -/
def pur (x : Nd) : Nd := { x with bv := .slice none 0 0 }
/-- A slice of nodes of the call's own; their blocks are, too. -/
structure OwnX (w w' : World) (v : Value) (q : List Nd) : Prop where
  own : w'.ownsRow 0 25 5 v q.length (flatN q)
  new : ∀ g, v.ownBlock = some g → w.heap.size ≤ g
  bl : ∀ x ∈ q, OwnB w w' x.bv x.blocks
theorem OwnX.toN {w w' : World} {v : Value} {q : List Nd} (h : OwnX w w' v q) : OwnN w w' v q := ⟨h.own, h.new, fun x hx => (h.bl x hx).rd⟩
theorem OwnX.rd {w w' : World} {v : Value} {q : List Nd} (h : OwnX w w' v q) : RdN w' v q := h.toN.rd
theorem OwnX.nil (w w' : World) : OwnX w w' (.slice none 0 0) [] := ⟨World.ownsRow_nil _ _ _ _, fun g h => by simp [Value.ownBlock] at h, fun x hx => by cases hx⟩
theorem OwnX.below {w w' w'' : World} {v : Value} {q : List Nd} (h : OwnX w w' v q) (hb : Below w'.heap.size w' w'') : OwnX w w'' v q :=
  ⟨below_ownsRow hb h.own (fun g hg => own_ltN h.own g hg), h.new, fun x hx => (h.bl x hx).below hb⟩
theorem OwnX.up {w w1 w' : World} {v : Value} {q : List Nd} (h : OwnX w1 w' v q) (hw : w.heap.size ≤ w1.heap.size) : OwnX w w' v q := ⟨h.own, fun g hg => Nat.le_trans hw (h.new g hg), fun x hx => (h.bl x hx).up hw⟩
end Go.Proofs.YtpghaghmejgjbaaGreatDoor.Tree
