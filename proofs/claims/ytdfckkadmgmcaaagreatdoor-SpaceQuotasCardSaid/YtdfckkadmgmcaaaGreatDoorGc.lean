/- Parts of the proof, one behind the other: Tq, Tr, Ts, Tt, Tu, Tv, Tw, Tx, Ty, Tz. -/
import Derived.Test.YtdfckkadmgmcaaaGreatDoorGb
import Derived.Test.YtdfckkadmgmcaaaGreatDoorGa
import Derived.Lib.SliceRun
import Derived.Laws.Externs
import Derived.Test.YtdfckkadmgmcaaaGreatDoorSj
import Derived.Sort.OwnSorted
import Derived.Deep.RegionHeld3
import Derived.Lib.QuietBelow
/- Trees: slices.Clone of blocks; rows of nodes whose blocks are the call's own, too. -/
namespace Go.Proofs.YtdfckkadmgmcaaaGreatDoor.Tree
open Go.RowKit
open Path (Bs bs mk bs_mk mk_bs tl_bs splitE splitL MaxC parD parE parN)
set_option linter.unusedSimpArgs false
set_option linter.unusedVariables false

theorem infoB : (Tryz.prog.info? 31).map (fun i => (i.zero, i.size, i.bytes)) = some (some (.agg #[.int .i64 0, .int .i64 0, .int .i64 0]), 3, 24) := by kernel_rfl
theorem etB : ET Tryz.prog 33 31 3 24 := ET.of Tryz.underlying33 infoB rfl (by decide) (by simp [Value.cells, Value.oneCell'])
def flatB (l : List Bl) : List Value := l.flatMap encB
theorem flatB_len (l : List Bl) : (flatB l).length = l.length * 3 := flat_length encB 3 encB_len l
theorem flatB_one (l : List Bl) : ∀ u ∈ flatB l, u.oneCell' = true := by
  intro u hu
  simp only [flatB, List.mem_flatMap] at hu
  obtain ⟨x, _, hx⟩ := hu
  simp only [encB, List.mem_cons, List.not_mem_nil, or_false] at hx
  rcases hx with rfl | rfl | rfl <;> rfl
theorem rd_flatB {w : World} {v : Value} {l : List Bl} (h : Rd w 3 encB v l) {ad : Addr} {cap : Nat} (hv : v = .slice (some ad) l.length cap) : ∀ W, Below w.heap.size w W → ∀ j u, (flatB l)[j]? = some u → W.cell? (ad.add j) = some u := by
  intro W hW j u hu
  obtain ⟨ao, cap', hv', _, _, hcell⟩ := h
  rw [hv] at hv'
  simp only [Value.slice.injEq, true_and] at hv'
  obtain ⟨rfl, rfl⟩ := hv'
  have hj := (List.getElem?_eq_some_iff.1 hu).1
  rw [flatB_len] at hj
  have hi : j / 3 < l.length := Nat.div_lt_of_lt_mul (by omega)
  have hx : l[j / 3]? = some l[j / 3] := by simp [hi]
  obtain ⟨b, off, e, hlt, hcl⟩ := hcell _ _ hx
  simp only [Option.some.injEq] at e
  subst e
  have e2 : j = j / 3 * 3 + j % 3 := by omega
  have := flat_get encB 3 encB_len l (j / 3) (j % 3) _ hx (Nat.mod_lt _ (by omega))
  rw [← e2] at this
  have h3 := hcl (j % 3) u (by rw [← this]; exact hu)
  rw [Addr.add_lit, hW.cell (p := ⟨b, off + j, none⟩) hlt, ← h3]
  congr 2
  omega
/-- A slice of blocks of the call's own. -/
structure OwnB (w w' : World) (v : Value) (q : List Bl) : Prop where
  own : w'.ownsRow 0 31 3 v q.length (flatB q)
  new : ∀ g, v.ownBlock = some g → w.heap.size ≤ g
theorem OwnB.nil (w w' : World) : OwnB w w' (.slice none 0 0) [] := ⟨World.ownsRow_nil _ _ _ _, fun g h => by simp [Value.ownBlock] at h⟩
theorem OwnB.rd {w w' : World} {v : Value} {q : List Bl} (h : OwnB w w' v q) : Rd w' 3 encB v q := Rd.of_own encB_len h.own
theorem OwnB.below {w w' w'' : World} {v : Value} {q : List Bl} (h : OwnB w w' v q) (hb : Below w'.heap.size w' w'') : OwnB w w'' v q :=
  ⟨below_ownsRow hb h.own (fun g hg => own_ltN h.own g hg), h.new⟩
theorem OwnB.up {w w1 w' : World} {v : Value} {q : List Bl} (h : OwnB w1 w' v q) (hw : w.heap.size ≤ w1.heap.size) : OwnB w w' v q := ⟨h.own, fun g hg => Nat.le_trans hw (h.new g hg)⟩
theorem OwnB.grown {w w' w'' : World} {v : Value} {q : List Bl} {row : Option Nat} (h : OwnB w w' v q) (hg : w'.grownBy w'' row) (hne : v.ownBlock = none ∨ v.ownBlock ≠ row) : OwnB w w'' v q := ⟨h.own.kept hg hne, h.new⟩
set_option maxHeartbeats 2000000 in
theorem cloneB_calls (w : World) (v : Value) (l : List Bl) (h : Rd w 3 encB v l) (hn : l.length ≤ 5864062014805) :
    Calls Tryz.prog 50 #[v] w fun e w' => ∃ v', e = .returned v' ∧ OwnB w w' v' l ∧ Below w.heap.size w w' := by
  have q50 : ∀ (w : World) (a : Option Addr) (n c n' c' : Nat), (binOp .eql 33 (.slice a n c) (.slice none n' c')).run Tryz.prog w = .ok (.bool a.isNone) w := fun w a n c n' c' => Lib.run_eql_slice_nil w _ _ a n c n' c' Tryz.underlying33
  have hfl := fun ad cap (hv : v = .slice (some ad) l.length cap) => rd_flatB h hv
  obtain ⟨ao, cap, rfl, hcap, hcm, hcell⟩ := rd_cellsB h
  have Hfl := Lib.hid hfl; clear hfl h
  have Hcell := Lib.hid hcell; clear hcell
  cases ao with
  | none =>
    have hl : l = [] := by
      cases l with
      | nil => rfl
      | cons x t => obtain ⟨b, off, e, _⟩ := Hcell.out w (Below.refl _ _) 0 x rfl; cases e
    subst hl
    clear Hcell
    go_enter Tryz.func50, Tryz.ntmps50
    go_wp2
    go_ret
    exact ⟨_, rfl, OwnB.nil _ _, Below.refl _ _⟩
  | some ad =>
    clear Hcell
    have hown : (w.alloc (.cells #[] 31)).ownsRow 0 31 3 (.slice (some ⟨w.heap.size, 0, none⟩) 0 0) 0 [] := ⟨rfl, .inr ⟨w.heap.size, 0, #[], rfl, Nat.zero_le _, heap_alloc_new w _, Nat.le_refl _, by decide, rfl, rfl⟩⟩
    have hb : Below w.heap.size w (w.alloc (.cells #[] 31)) := (Below.refl _ _).alloc (Nat.le_refl _) _
    go_enter Tryz.func50, Tryz.ntmps50
    go_wp2_with (at_builtin; (with_reducible refine etB.wpList_app hown (m := l.length) (c := cap) (ao := some ad) (news := flatB l) (flatB_len l) (fun h => by cases h) (fun ad' h => by cases h; exact Hfl.out ad cap rfl _ hb) (flatB_one l) (by omega) (by unfold maxLen; omega) rfl (.tmp 5) (.tmp 6) rfl rfl rfl ?_); intro v1 w1 own1 grow1 at1 nil1)
    go_ret
    rw [Nat.zero_add, List.nil_append] at own1
    refine ⟨v1, rfl, ⟨own1, fun g hg => ?_⟩, hb.grown grow1 hb.size (fun q hq => ?_)⟩
    · rcases at1 with e | e
      · rw [e] at hg; simp [Value.ownBlock] at hg; omega
      · rw [e] at hg; simp at hg; omega
    · simp [Value.ownBlock] at hq; omega

/-- A node without the place of its blocks. -/
def pur (x : Nd) : Nd := { x with bv := .slice none 0 0 }
/-- A slice of nodes of the call's own; their blocks are, too. -/
structure OwnX (w w' : World) (v : Value) (q : List Nd) : Prop where
  own : w'.ownsRow 0 35 5 v q.length (flatN q)
  new : ∀ g, v.ownBlock = some g → w.heap.size ≤ g
  bl : ∀ x ∈ q, OwnB w w' x.bv x.blocks
theorem OwnX.toN {w w' : World} {v : Value} {q : List Nd} (h : OwnX w w' v q) : OwnN w w' v q := ⟨h.own, h.new, fun x hx => (h.bl x hx).rd⟩
theorem OwnX.rd {w w' : World} {v : Value} {q : List Nd} (h : OwnX w w' v q) : RdN w' v q := h.toN.rd
theorem OwnX.nil (w w' : World) : OwnX w w' (.slice none 0 0) [] := ⟨World.ownsRow_nil _ _ _ _, fun g h => by simp [Value.ownBlock] at h, fun x hx => by cases hx⟩
theorem OwnX.below {w w' w'' : World} {v : Value} {q : List Nd} (h : OwnX w w' v q) (hb : Below w'.heap.size w' w'') : OwnX w w'' v q :=
  ⟨below_ownsRow hb h.own (fun g hg => own_ltN h.own g hg), h.new, fun x hx => (h.bl x hx).below hb⟩
theorem OwnX.up {w w1 w' : World} {v : Value} {q : List Nd} (h : OwnX w1 w' v q) (hw : w.heap.size ≤ w1.heap.size) : OwnX w w' v q := ⟨h.own, fun g hg => Nat.le_trans hw (h.new g hg), fun x hx => (h.bl x hx).up hw⟩
end Go.Proofs.YtdfckkadmgmcaaaGreatDoor.Tree

/- Trees: slices.SortFunc of the nodes, by their paths. -/
namespace Go.Proofs.YtdfckkadmgmcaaaGreatDoor.Tree
open Go.RowKit
open Path (Bs bs mk bs_mk mk_bs tl_bs splitE splitL MaxC parD parE parN)
open Go.Sort (SWO PermIn SortedIn HoldsK putRowK flatK grow putCells Holds putRow)
set_option linter.unusedSimpArgs false
set_option linter.unusedVariables false

abbrev Nc := { x : Nd // x.bv.oneCell' = true }
instance : Inhabited Nc := ⟨⟨⟨⟨#[]⟩, false, 0, [], .slice none 0 0, 0⟩, rfl⟩⟩
def encC (x : Nc) : List Value := encN x.1
def cfC (x y : Nc) : Int := Lib.compareBytes (bs x.1.path) (bs y.1.path)
theorem lt_cf (x y : Nc) : ltOf cfC x y = ltB (bs x.1.path) (bs y.1.path) := by
  rw [ltOf, cfC, cmp_lt]
  cases h : ltB (bs x.1.path) (bs y.1.path)
  · rw [if_neg (by decide)]
    split <;> rfl
  · rfl
theorem swo_c : SWO (ltOf cfC) where
  irrefl x := by rw [lt_cf, lt_irr]
  trans x y z h1 h2 := by
    rw [lt_cf] at *
    exact lt_trans _ _ _ h1 h2
  ntrans x y z h1 h2 := by
    rw [lt_cf] at *
    cases h : ltB (bs x.1.path) (bs z.1.path)
    · rfl
    · rcases lt_tri (bs x.1.path) (bs y.1.path) with h3 | h3 | h3
      · rw [h3] at h1; cases h1
      · rw [h3, h2] at h; cases h
      · rw [lt_trans _ _ _ h3 h] at h2; cases h2
set_option maxHeartbeats 1000000 in
theorem cmp_calls (w : World) (x y : Nc) : Calls Tryz.prog 175 #[.agg (encC x).toArray, .agg (encC y).toArray] w fun e w' => e = .returned (.int .i64 (cfC x y)) ∧ ∃ q os, w' = grow (w.drewN q) os := by
  obtain ⟨x, hx⟩ := x
  obtain ⟨y, hy⟩ := y
  have hc := fun W => Tryz.strings_Compare x.path y.path W
  show Calls Tryz.prog 175 #[.agg #[.string x.path, .bool x.dir, .int .i64 x.quota, x.bv, .int .i64 x.writer], .agg #[.string y.path, .bool y.dir, .int .i64 y.quota, y.bv, .int .i64 y.writer]] w _
  go_enter Tryz.func175, Tryz.ntmps175
  go_wp2_with (fail)
  refine (hc _).mono ?_
  rintro e w1 ⟨rfl, rfl⟩
  go_wp2_with (fail)
  go_ret
  refine ⟨rfl, 0, #[.cells #[.string x.path, .bool x.dir, .int .i64 x.quota, x.bv, .int .i64 x.writer] 35 (0, 0), .cells #[.string y.path, .bool y.dir, .int .i64 y.quota, y.bv, .int .i64 y.writer] 35 (0, 0)], ?_⟩
  have h : ∀ (a b : Obj), (w.alloc a).alloc b = grow (w.drewN 0) #[a, b] := fun a b => by
    show ({ w with heap := (w.heap.push a).push b } : World) = { w with drawn := w.drawn + 0, heap := w.heap ++ #[a, b] }
    rw [show w.heap ++ #[a, b] = (w.heap.push a).push b from rfl]
    rfl
  exact h _ _

/-! The row of cells. -/
theorem get!_flat (q : List Nc) (t : Nat) (ht : t < q.length * 5) : (flatK encC 5 q.toArray)[t]? = (flatN (q.map (·.1)))[t]? := by
  have hi : t / 5 < q.length := Nat.div_lt_of_lt_mul (by omega)
  have h1 := Go.Sort.get_flatK encC 5 q.toArray t (by simpa using ht)
  have hs : t < (flatK encC 5 q.toArray).size := by simpa using ht
  rw [getElem!_pos _ t hs] at h1
  rw [Array.getElem?_eq_getElem hs, h1]
  have hx : (q.map (·.1))[t / 5]? = some q[t / 5].1 := by simp [hi]
  have h2 := flat_get encN 5 encN_len (q.map (·.1)) (t / 5) (t % 5) _ hx (Nat.mod_lt _ (by decide))
  have e2 : t / 5 * 5 + t % 5 = t := by omega
  rw [e2] at h2
  rw [flatN, h2]
  have h3 : (q.toArray)[t / 5]! = q[t / 5] := by simp [hi]
  rw [h3]
  have hl : t % 5 < (encC q[t / 5]).length := by rw [encC, encN_len]; exact Nat.mod_lt _ (by decide)
  rw [getElem!_pos (encC q[t / 5]) (t % 5) hl]
  exact (List.getElem?_eq_getElem hl).symm
theorem flat_list (q : List Nc) : (flatK encC 5 q.toArray).toList = flatN (q.map (·.1)) := by
  apply List.ext_getElem?
  intro t
  rw [Array.getElem?_toList]
  by_cases ht : t < q.length * 5
  · exact get!_flat q t ht
  · rw [List.getElem?_eq_none (by rw [flatN_len]; simpa using ht), Array.getElem?_eq_none (by simpa using ht)]
theorem holds_own {w : World} {g : Nat} {cur : Array Value} {e : TypeId} {q : List Nc} (hb : w.heap[g]? = some (.cells cur e (0, 0))) (ht : cur.toList.take (q.length * 5) = flatN (q.map (·.1))) : HoldsK encC 5 w g 0 q.toArray := by
  intro j hj
  have hj' : j < q.length * 5 := by simpa using hj
  refine ⟨?_, by simp [World.frozen?, hb]⟩
  have h1 : (cur.toList.take (q.length * 5))[j]? = (flatK encC 5 q.toArray)[j]? := by rw [ht, get!_flat q j hj']
  rw [List.getElem?_take_of_lt hj'] at h1
  simp only [World.cell?, hb, Nat.zero_add]
  simp only [Option.isSome_none, Bool.false_eq_true, if_false]
  rw [← Array.getElem?_toList, h1, Array.getElem?_eq_getElem hj, getElem!_pos _ j hj]
  rfl
theorem heap_sortedK {w : World} {g n : Nat} {os : Array Obj} {cur : Array Value} {e : TypeId} {fr : Nat × Nat} (d : Array Nc) (hb : w.heap[g]? = some (.cells cur e fr)) :
    (sortWorldK encC 5 w g 0 n d os).heap[g]? = some (.cells (putCells id 0 (flatK encC 5 d) cur) e fr) := by
  have hg : g < w.heap.size := (Array.getElem?_eq_some_iff.1 hb).1
  rw [sortWorldK, putRowK, Go.Sort.heap_grow_old _ _ (by simpa using hg)]
  simp [putRow, Go.Sort.mapBlock, Go.Sort.ahead, Array.getElem?_modify, hb, Go.Sort.onCells]
theorem grownBy_sortedK {w : World} {g n : Nat} {os : Array Obj} (d : Array Nc) : w.grownBy (sortWorldK encC 5 w g 0 n d os) (some g) := by
  unfold sortWorldK putRowK
  refine ⟨rfl, rfl, rfl, by simp, fun k hk hne => ?_⟩
  rw [Go.Sort.heap_grow_old _ _ (by simpa using hk)]
  have : g ≠ k := fun e => hne (by rw [e])
  simp [putRow, Go.Sort.mapBlock, Go.Sort.ahead, Array.getElem?_modify, this]
theorem take_putK (cur : Array Value) (q : List Nc) (h : q.length * 5 ≤ cur.size) : (putCells id 0 (flatK encC 5 q.toArray) cur).toList.take (q.length * 5) = flatN (q.map (·.1)) := by
  rw [← flat_list]
  apply List.ext_getElem?
  intro j
  by_cases hj : j < q.length * 5
  · rw [List.getElem?_take_of_lt hj, Array.getElem?_toList, Array.getElem?_toList]
    have hs : j < (flatK encC 5 q.toArray).size := by simpa using hj
    rw [Array.getElem?_eq_getElem hs]
    simp [putCells, hj, show j < cur.size by omega]
  · rw [List.getElem?_take_eq_none (by omega), List.getElem?_eq_none (by simp; omega)]

/-- The paths don't fall. -/
def Sorted (l : List Nd) : Prop := l.Pairwise fun x y => ltB (bs y.path) (bs x.path) = false
theorem lift_c : ∀ (q : List Nd), (∀ x ∈ q, x.bv.oneCell' = true) → ∃ c : List Nc, c.map (·.1) = q
  | [], _ => ⟨[], rfl⟩
  | x :: t, h => by
    obtain ⟨c, hc⟩ := lift_c t fun y hy => h y (List.mem_cons_of_mem _ hy)
    exact ⟨⟨x, h x (List.mem_cons_self ..)⟩ :: c, by simp [hc]⟩
theorem agN (w : World) : /- 174 -/ (isAgg (Tryz.sortN_ren.t 24)).run Tryz.prog w = .ok true w := Tryz.isAgg35 w
theorem zN (w : World) : /- 174 -/ (Go.sizeOf (Tryz.sortN_ren.t 24)).run Tryz.prog w = .ok 5 w := Tryz.sizeOf35 w
theorem enters_cmp (args : Array Value) (w : World) : (callFunc 175 args).run Tryz.prog w = .ok (.enter 175 args) w := enters Tryz.func175 (by rfl) (by rfl) args w
theorem sortN_calls (w w1 : World) (v : Value) (q : List Nd) (hO : OwnX w w1 v q) (hne : q ≠ []) (hn : q.length ≤ 1000000) (hb : w.heap.size ≤ w1.heap.size) :
    Calls Tryz.prog 174 #[v, .func (.func 175) #[] #[]] w1 fun e w' => e = .returned (.tuple #[]) ∧ (∃ q', q'.Perm q ∧ Sorted q' ∧ OwnX w w' v q') ∧ Below w.heap.size w1 w' := by
  have hlen : 0 < q.length := List.length_pos_iff.2 hne
  have hbl := hO.bl
  have hnew := hO.new
  obtain ⟨c, rfl⟩ := lift_c q fun x hx => by
    obtain ⟨ao, cap, hv, _⟩ := rd_cellsB (hbl x hx).rd
    rw [hv]; rfl
  rw [List.length_map] at *
  rcases hO.own with ⟨_, ⟨rfl, h0⟩ | ⟨g, cap, cur, rfl, hg0, hg, hnc, hcm, hcs, htake⟩⟩
  · rw [List.length_map] at h0; omega
  · rw [List.length_map] at *
    have hH : HoldsK encC 5 w1 g 0 c.toArray := holds_own hg htake
    have hc := AnyQ.slices_SortFunc Tryz.sortN 5 agN zN encC (fun x => encN_len _) (fun x v hv => ?_) cfC swo_c 175 #[] g 0 cap c.toArray w1 enters_cmp (fun m os dk hdk x y => cmp_calls _ x y) hH (lt_of_block hg) (by simp; omega)
    · refine hc.mono ?_
      rintro e w' ⟨rfl, d', n, os, hp, hs, rfl⟩
      have hsz : d'.size = c.length := by simpa using hp.1
      obtain ⟨c', rfl⟩ : ∃ c' : List Nc, d' = c'.toArray := ⟨d'.toList, by simp⟩
      have hl' : c'.length = c.length := by simpa using hsz
      have hperm : c'.Perm c := by
        have := hp.2.2
        simpa [hl', List.take_of_length_le] using this
      have hgr := grownBy_sortedK (w := w1) (g := g) (n := n) (os := os) c'.toArray
      refine ⟨rfl, ⟨c'.map (·.1), hperm.map _, ?_, ?_, hnew, fun x hx => ?_⟩, ?_⟩
      · refine List.pairwise_map.2 (List.pairwise_iff_getElem.2 fun i j hi hj hij => ?_)
        have := hs i j (Nat.zero_le _) hij (by simpa [hl'] using hj)
        rw [lt_cf] at this
        simpa [hi, hj] using this
      · rw [List.length_map, hl']
        refine ⟨by rw [flatN_len, List.length_map, hl'], .inr ⟨g, cap, _, rfl, hg0, heap_sortedK _ hg, hnc, hcm, by simp [putCells, hcs], ?_⟩⟩
        rw [← hl']
        exact take_putK cur c' (by rw [hl', hcs]; exact Nat.mul_le_mul_right _ hnc)
      · have hx' := (hperm.map (·.1)).mem_iff.1 hx
        refine (hbl x hx').grown hgr ?_
        rcases (hbl x hx').own with ⟨_, ⟨e, _⟩ | ⟨g', cap', cur', e, _, hg', _⟩⟩
        · exact .inl (by rw [e]; rfl)
        · refine .inr ?_
          rw [e]
          intro e2
          have : g' = g := by simpa [Value.ownBlock] using e2
          subst this
          rw [hg] at hg'
          have := congrArg (fun o => match o with | some (Obj.cells _ t _) => t | _ => 0) hg'
          simp at this
      · exact (Below.refl _ _).grown hgr hb (fun k hk => by injection hk with hk; subst hk; exact hnew _ rfl)
    · obtain ⟨x, hx⟩ := x
      simp only [encC, encN, List.mem_cons, List.not_mem_nil, or_false] at hv
      rcases hv with rfl | rfl | rfl | rfl | rfl
      · rfl
      · rfl
      · rfl
      · exact hx
      · rfl
end Go.Proofs.YtdfckkadmgmcaaaGreatDoor.Tree

/- Trees: tree.some, whatever the choice. -/
namespace Go.Proofs.YtdfckkadmgmcaaaGreatDoor.Tree
open Go.RowKit
open Path (Bs bs mk bs_mk mk_bs tl_bs splitE splitL MaxC parD parE parN)
set_option linter.unusedSimpArgs false
set_option linter.unusedVariables false

theorem OwnB.upd {F : Nat → Prop} {w w' w'' : World} {v : Value} {q : List Bl} (h : OwnB w w' v q) (hu : Upd F w' w'') (hF : ∀ i, F i → i < w.heap.size) : OwnB w w'' v q :=
  ⟨hu.ownsRow h.own fun g hg hf => by have := hF g hf; have := h.new g hg; omega, h.new⟩
theorem OwnX.upd {F : Nat → Prop} {w w' w'' : World} {v : Value} {q : List Nd} (h : OwnX w w' v q) (hu : Upd F w' w'') (hF : ∀ i, F i → i < w.heap.size) : OwnX w w'' v q :=
  ⟨hu.ownsRow h.own fun g hg hf => by have := hF g hf; have := h.new g hg; omega, h.new, fun x hx => (h.bl x hx).upd hu hF⟩
theorem OwnX.alloc {w w' : World} {v : Value} {q : List Nd} (h : OwnX w w' v q) (o : Obj) : OwnX w (w'.alloc o) v q := h.below ((Below.refl _ _).alloc (Nat.le_refl _) _)
theorem OwnX.len {w w' : World} {v : Value} {q : List Nd} (h : OwnX w w' v q) {p : List Nd} (e : q.map pur = p) : q.length = p.length := by rw [← e, List.length_map]
theorem apart {w w' : World} {v u : Value} {n : Nat} {xs : List Value} {q : List Bl} (h : w'.ownsRow 0 35 5 v n xs) (hb : OwnB w w' u q) : u.ownBlock = none ∨ u.ownBlock ≠ v.ownBlock := by
  rcases hb.own with ⟨_, ⟨e, _⟩ | ⟨g', cap', cur', e, _, hg', _⟩⟩
  · exact .inl (by rw [e]; rfl)
  rcases h with ⟨_, ⟨e1, _⟩ | ⟨g, cap, cur, e1, _, hg, _⟩⟩
  · refine .inr ?_
    rw [e, e1]
    intro e2
    simp [Value.ownBlock] at e2
  · refine .inr ?_
    rw [e, e1]
    intro e2
    have : g' = g := by simpa [Value.ownBlock] using e2
    subst this
    rw [hg] at hg'
    have := congrArg (fun o => match o with | some (Obj.cells _ t _) => t | _ => 0) hg'
    simp at this
/-- What 'keep' does to the k-th of the nodes, among worlds that only F's blocks tell apart. -/
structure Choice (w : World) (F : Nat → Prop) (n : Nat) (cb : Array Value) (l : List Nd) (f : Nd → Nd) (b : Nd → Bool) (J : Nat → World → Prop) : Prop where
  calls : ∀ W, Upd F w W → ∀ k x, l[k]? = some x → J k W → Calls Tryz.prog n (#[.agg #[.string x.path, .bool x.dir, .int .i64 x.quota, x.bv, .int .i64 x.writer]] ++ cb) W fun e w' =>
    e = .returned (.tuple #[.agg #[.string (f x).path, .bool (f x).dir, .int .i64 (f x).quota, x.bv, .int .i64 (f x).writer], .bool (b x)]) ∧ Upd F W w' ∧ J (k + 1) w'
  keep : ∀ W W' k, J k W → (∀ i, F i → W'.heap[i]? = W.heap[i]?) → J k W'
  bl : ∀ x ∈ l, (f x).blocks = x.blocks
  old : ∀ i, F i → i < w.heap.size
  enters : ∀ args W, (callFunc n args).run Tryz.prog W = .ok (.enter n args) W
def preS (l : List Nd) (f : Nd → Nd) (b : Nd → Bool) (k : Nat) : List Nd := (((l.take k).filter b).map f).map pur
theorem preS_no {l : List Nd} {f : Nd → Nd} {b : Nd → Bool} {k : Nat} {x : Nd} (hx : l[k]? = some x) (h : b x = false) : preS l f b (k + 1) = preS l f b k := by
  rw [preS, preS, List.take_add_one, hx]; simp [h]
theorem preS_yes {l : List Nd} {f : Nd → Nd} {b : Nd → Bool} {k : Nat} {x : Nd} (hx : l[k]? = some x) (h : b x = true) : preS l f b (k + 1) = preS l f b k ++ [pur (f x)] := by
  rw [preS, preS, List.take_add_one, hx]; simp [h]
theorem preS_len (l : List Nd) (f : Nd → Nd) (b : Nd → Bool) (k : Nat) : (preS l f b k).length ≤ k := by
  simp only [preS, List.length_map]
  exact Nat.le_trans (List.length_filter_le _ _) (by rw [List.length_take]; omega)

set_option maxRecDepth 4000 in
set_option maxHeartbeats 8000000 in
theorem some_calls (w0 w : World) (F : Nat → Prop) (n : Nat) (cb : Array Value) (v : Value) (l : List Nd) (f : Nd → Nd) (b : Nd → Bool) (J : Nat → World → Prop) (hC : Choice w F n cb l f b J) (h : RdN w0 v l) (hb0 : Below w0.heap.size w0 w) (hF : ∀ i, F i → w0.heap.size ≤ i)
    (hn : l.length ≤ 1000000) (hbn : ∀ x ∈ l, x.blocks.length ≤ 5864062014805) (hne : ∃ x ∈ l, b x = true) (hJ : J 0 w) :
    Calls Tryz.prog 137 #[v, .func (.func n) #[] cb] w fun e w' => (∃ v' q, e = .returned v' ∧ OwnX w w' v' q ∧ (q.map pur).Perm (preS l f b l.length) ∧ Sorted q) ∧ Upd F w w' ∧ J l.length w' := by
  obtain ⟨ao, cap, rfl, hcap, _, hcell⟩ := rd_cellsN h.rd
  have hbl := h.bl
  have Hbl := Lib.hid hbl; have Hcell := Lib.hid hcell; have Hk := Lib.hid hC; have Hbn := Lib.hid hbn; have Hne := Lib.hid hne; have HF := Lib.hid hF
  clear hcell h hbl hC hbn hne hF
  generalize hm : l.length = m at *
  have Hm := Lib.hid hm
  clear hm
  have hJ0 := Lib.hid hJ; clear hJ
  go_enter Tryz.func137, Tryz.ntmps137
  go_wp2_with (fail)
  go_loopw [5, 12] (fun vo vk wr => ∃ k : Nat, vk = .int .i64 k ∧ k ≤ m ∧ (∃ q, OwnX w wr vo q ∧ q.map pur = preS l f b k) ∧ Upd F w wr ∧ J k wr) (fun _ vk _ => m - (intOf vk).toNat)
  case atStart => exact ⟨0, rfl, Nat.zero_le _, ⟨[], OwnX.nil _ _, rfl⟩, Upd.refl _ _, hJ0.out⟩
  case round =>
    obtain ⟨k, rfl, hk, ⟨q, hO, hq⟩, hU, hj⟩ := hrel
    have HO := Lib.hid hO; have Hq := Lib.hid hq; have Hj := Lib.hid hj
    clear hO hq hj
    have hB : Below w0.heap.size w0 wr := hb0.trans (hU.toBelow HF.out hb0.size)
    by_cases hlt : k < m
    · obtain ⟨x, hx⟩ : ∃ x, l[k]? = some x := ⟨l[k]'(by rw [Hm.out]; exact hlt), by rw [List.getElem?_eq_getElem]⟩
      obtain ⟨b', off', rfl, _, d0, d1, d2, d3, d4⟩ := Hcell.out wr hB k x hx
      have hxm := List.mem_of_getElem? hx
      obtain ⟨ax, cx, hbvx⟩ := bv_slice (Hbl.out x hxm)
      rw [hbvx] at d3
      have hU1 : Upd F w (wr.alloc (.cells #[.string x.path, .bool x.dir, .int .i64 x.quota, .slice ax x.blocks.length cx, .int .i64 x.writer] 35 (0, 0))) := hU.alloc _
      have hp := Hk.out.calls _ hU1 k x hx (Hk.out.keep _ _ _ Hj.out fun i hi => Below.heap_alloc _ _ _ (by have := Hk.out.old i hi; have := hU.size; omega))
      rw [hbvx] at hp
      have Hx := Lib.hid hx; have Hxm := Lib.hid hxm; have Hbv := Lib.hid hbvx
      clear hx hxm hbvx
      have eg := Hk.out.enters
      cases hbx : b x
      · rw [hbx] at hp
        have Hb := Lib.hid hbx; clear hbx
        go_wp2_with (fail)
        refine hp.mono ?_
        rintro e w4 ⟨rfl, hu4, hj4⟩
        have HJ4 := Lib.hid hj4; clear hj4
        go_wp2_with (fail)
        go_roundw
        case rel =>
          refine ⟨k + 1, by go_num, by omega, ⟨q, ((HO.out.alloc _).upd hu4 Hk.out.old).alloc _, ?_⟩, (hU1.trans hu4).alloc _, ?_⟩
          · rw [Hq.out, preS_no Hx.out Hb.out]
          · exact Hk.out.keep _ _ _ HJ4.out fun i hi => Below.heap_alloc _ _ _ (by have := Hk.out.old i hi; have := hU1.size; have := hu4.size; omega)
        case measure => simp [intOf]; omega
      · rw [hbx] at hp
        have Hb := Lib.hid hbx; clear hbx
        have hq1 : q.length ≤ k := by rw [HO.out.len Hq.out]; exact preS_len l f b k
        go_wp2_with (fail)
        refine hp.mono ?_
        rintro e w4 ⟨rfl, hu4, hj4⟩
        have HJ4 := Lib.hid hj4; clear hj4 hp
        have hU4 := hU1.trans hu4
        have hO4 := (HO.out.alloc (.cells #[.string x.path, .bool x.dir, .int .i64 x.quota, .slice ax x.blocks.length cx, .int .i64 x.writer] 35 (0, 0))).upd hu4 Hk.out.old
        have hU5 := hU4.alloc (.cells #[.string (f x).path, .bool (f x).dir, .int .i64 (f x).quota, .slice ax x.blocks.length cx, .int .i64 (f x).writer] 35 (0, 0))
        have hB5 : Below w0.heap.size w0 (w4.alloc (.cells #[.string (f x).path, .bool (f x).dir, .int .i64 (f x).quota, .slice ax x.blocks.length cx, .int .i64 (f x).writer] 35 (0, 0))) := hb0.trans (hU5.toBelow HF.out hb0.size)
        have hbx5 := (Hbl.out x Hxm.out).below hB5 (Nat.le_refl _)
        rw [Hbv.out] at hbx5
        have hcl := cloneB_calls _ _ x.blocks hbx5 (Hbn.out x Hxm.out)
        have HO4 := Lib.hid hO4; have Hcl := Lib.hid hcl
        clear hO4 hcl hbx5 hU1 hu4
        go_wp2_with (fail)
        refine Hcl.out.mono ?_
        rintro e w6 ⟨v6, rfl, ho6, hb6⟩
        have hblk : w6.heap[w4.heap.size]? = some (.cells #[.string (f x).path, .bool (f x).dir, .int .i64 (f x).quota, .slice ax x.blocks.length cx, .int .i64 (f x).writer] 35 (0, 0)) := (hb6.block _ (by simp)).trans (heap_alloc_new _ _)
        obtain ⟨a6, c6, rfl, _, _, _⟩ := rd_cellsB ho6.rd
        have g0 : w6.cell? ⟨w4.heap.size, 0, none⟩ = _ := cell_of_blk hblk
        have g1 : w6.cell? ⟨w4.heap.size, 1, none⟩ = _ := cell_of_blk hblk
        have g2 : w6.cell? ⟨w4.heap.size, 2, none⟩ = _ := cell_of_blk hblk
        have g3 : w6.cell? ⟨w4.heap.size, 3, none⟩ = _ := cell_of_blk hblk
        have g4 : w6.cell? ⟨w4.heap.size, 4, none⟩ = _ := cell_of_blk hblk
        have z3 : w6.frozen? ⟨w4.heap.size, 3, none⟩ = false := free_of_blk hblk
        simp only [List.getElem?_toArray, List.getElem?_cons_zero, List.getElem?_cons_succ] at g0 g1 g2 g3 g4
        have hb7 : Below w4.heap.size w4 (w6.setCell ⟨w4.heap.size, 3, none⟩ (.slice a6 x.blocks.length c6)) := (((Below.refl _ _).alloc (Nat.le_refl _) _).trans (hb6.mono (by simp))).setCell (Nat.le_refl _) _
        have ho7 : OwnX w (w6.setCell ⟨w4.heap.size, 3, none⟩ (.slice a6 x.blocks.length c6)) u5 q := HO4.out.below hb7
        have hob7 : OwnB (w4.alloc (.cells #[.string (f x).path, .bool (f x).dir, .int .i64 (f x).quota, .slice ax x.blocks.length cx, .int .i64 (f x).writer] 35 (0, 0))) (w6.setCell ⟨w4.heap.size, 3, none⟩ (.slice a6 x.blocks.length c6)) (.slice a6 x.blocks.length c6) x.blocks :=
          ⟨ownsRow_setCell_other ho6.own (fun hg => by have := ho6.new _ hg; simp at this; omega) _, ho6.new⟩
        have hnew : ∀ o, ((w6.setCell ⟨w4.heap.size, 3, none⟩ (.slice a6 x.blocks.length c6)).alloc o).heap[w6.heap.size]? = some o := fun o => by
          have := heap_alloc_new (w6.setCell ⟨w4.heap.size, 3, none⟩ (.slice a6 x.blocks.length c6)) o
          rwa [show (w6.setCell ⟨w4.heap.size, 3, none⟩ (.slice a6 x.blocks.length c6)).heap.size = w6.heap.size by simp [World.setCell]] at this
        have HO7 := Lib.hid ho7; have HB7 := Lib.hid hob7; have Hb7 := Lib.hid hb7
        have hown := ho7.own
        generalize hwq : q.length = n1 at *
        have HW := Lib.hid hown; have Hwq := Lib.hid hwq
        clear ho6 hblk Hcl ho7 hob7 hb7 hown hwq
        have hs6 : w4.heap.size + 1 ≤ w6.heap.size := by have := hb6.size; simpa using this
        go_wp2_with (at_builtin; (with_reducible refine etN.wpList1 (HW.out.alloc _) (hnew _) rfl (by simp [Value.oneCell']) (by omega) (by unfold maxLen; omega) rfl (.tmp 27) (.tmp 29) rfl rfl rfl ?_); intro g1 cap1 w8 hown1 hgrow hat hlt1)
        have hy : encN { f x with bv := .slice a6 x.blocks.length c6 } = [.string (f x).path, .bool (f x).dir, .int .i64 (f x).quota, .slice a6 x.blocks.length c6, .int .i64 (f x).writer] := rfl
        have hBs := Hk.out.bl x Hxm.out
        have hs4 : w.heap.size ≤ w4.heap.size := hU4.size
        have hs7 : w4.heap.size ≤ (w6.setCell ⟨w4.heap.size, 3, none⟩ (.slice a6 x.blocks.length c6)).heap.size := Hb7.out.size
        have hrow : ∀ k, u5.ownBlock = some k → w.heap.size ≤ k := fun k hk => HO7.out.new k hk
        have hB8 : Below w.heap.size w4 w8 := ((Hb7.out.mono hs4).alloc (by omega) _).grown hgrow (by simp; omega) hrow
        have hU8 : Upd F w w8 := (((hU4.trans (Upd.of_below Hb7.out F)).alloc _).grown hgrow fun k hk => .inr (hrow k hk))
        go_roundw
        case rel =>
          refine ⟨k + 1, by go_num, by omega, ⟨q ++ [{ f x with bv := .slice a6 x.blocks.length c6 }], ⟨?_, fun g hg => ?_, fun y hy' => ?_⟩, ?_⟩, hU8, Hk.out.keep _ _ _ HJ4.out fun i hi => hB8.block i (Hk.out.old i hi)⟩
          · rw [List.length_append, Hwq.out, flatN_snoc, hy]
            exact hown1
          · simp only [Value.ownBlock, Option.some.injEq] at hg
            subst hg
            rcases hat with h | h
            · exact hrow _ h
            · simp at h; omega
          · rcases List.mem_append.1 hy' with hy' | hy'
            · have h2 := (HO7.out.bl y hy').below ((Below.refl _ _).alloc (Nat.le_refl _) (.cells #[.string (f x).path, .bool (f x).dir, .int .i64 (f x).quota, .slice a6 x.blocks.length c6, .int .i64 (f x).writer] 35 (0, 0)))
              exact h2.grown hgrow (apart (HW.out.alloc _) h2)
            · rw [List.mem_singleton] at hy'
              subst hy'
              have h2 := (HB7.out.up (w := w) (by simp; omega)).below ((Below.refl _ _).alloc (Nat.le_refl _) (.cells #[.string (f x).path, .bool (f x).dir, .int .i64 (f x).quota, .slice a6 x.blocks.length c6, .int .i64 (f x).writer] 35 (0, 0)))
              show OwnB w w8 (.slice a6 x.blocks.length c6) (f x).blocks
              rw [hBs]
              exact h2.grown hgrow (apart (HW.out.alloc _) h2)
          · rw [List.map_append, Hq.out, preS_yes Hx.out Hb.out]
            rfl
        case measure => simp [intOf]; omega
    · obtain rfl : k = m := by omega
      have hqn : q ≠ [] := by
        intro e
        obtain ⟨x, hx, hbx⟩ := Hne.out
        have h1 := Hq.out
        rw [e, preS, ← Hm.out, List.take_length] at h1
        have h2 : x ∈ l.filter b := List.mem_filter.2 ⟨hx, hbx⟩
        cases h3 : l.filter b with
        | nil => rw [h3] at h2; cases h2
        | cons a t => rw [h3] at h1; cases h1
      have hq1 : q.length ≤ k := by rw [HO.out.len Hq.out]; exact preS_len l f b k
      have hs := sortN_calls w wr u5 q HO.out hqn (by omega) hU.size
      have Hs := Lib.hid hs
      clear hs
      go_wp2_with (fail)
      refine Hs.out.mono ?_
      rintro e w4 ⟨rfl, ⟨q', hp', hs', hO'⟩, hb4⟩
      go_wp2_with (fail)
      go_ret
      refine ⟨⟨_, _, rfl, hO', ?_, hs'⟩, hU.trans' (G := fun i => w.heap.size ≤ i) ⟨hb4.os, hb4.tape, hb4.output, hb4.size, fun i hi hg => hb4.block i (by omega)⟩ fun i hi => .inr hi, Hk.out.keep _ _ _ Hj.out fun i hi => hb4.block i (Hk.out.old i hi)⟩
      rw [← Hq.out]
      exact hp'.map pur
end Go.Proofs.YtdfckkadmgmcaaaGreatDoor.Tree

/- Trees: tree.Remove. -/
namespace Go.Proofs.YtdfckkadmgmcaaaGreatDoor.Tree
open Go.RowKit
open Path (Bs bs mk bs_mk mk_bs tl_bs splitE splitL MaxC parD parE parN underL under_calls)
set_option linter.unusedSimpArgs false
set_option linter.unusedVariables false

set_option maxHeartbeats 4000000 in
theorem rem1_calls (w : World) (B : Nat) (p : ByteArray) (x : Nd) (hx : ∃ ax cx, x.bv = .slice ax x.blocks.length cx) (hc : w.heap[B]? = some (.cells #[.string p] 9 (0, 0))) (hM : MaxC w) :
    Calls Tryz.prog 143 #[.agg #[.string x.path, .bool x.dir, .int .i64 x.quota, x.bv, .int .i64 x.writer], .pointer (some ⟨B, 0, none⟩)] w fun e w' => e = .returned (.tuple #[.agg #[.string x.path, .bool x.dir, .int .i64 x.quota, x.bv, .int .i64 x.writer], .bool (!underL (bs p) (bs x.path))]) ∧ Below w.heap.size w w' := by
  obtain ⟨ax, cx, hv⟩ := hx
  rw [hv]
  have hB := lt_of_block hc
  have hU := fun W (hW : Below w.heap.size w W) => under_calls W p x.path (hM.below hW)
  have hcB : w.cell? ⟨B, 0, none⟩ = _ := cell_of_blk hc
  simp only [List.getElem?_toArray, List.getElem?_cons_zero] at hcB
  generalize underL (bs p) (bs x.path) = u at *
  have HU := Lib.hid hU
  clear hU hv hM hc
  go_enter Tryz.func143, Tryz.ntmps143
  go_wp2_with (fail)
  have hb2 : Below w.heap.size w ((w.alloc (.cells #[.string x.path, .bool x.dir, .int .i64 x.quota, .slice ax x.blocks.length cx, .int .i64 x.writer] 35 (0, 0))).alloc (.cells #[.string ⟨#[]⟩, .bool false, .int .i64 0, .slice none 0 0, .int .i64 0] 35 (0, 0))) := ((Below.refl _ _).alloc (Nat.le_refl _) _).alloc (by simp) _
  have c2 := (hb2.cell (p := ⟨B, 0, none⟩) hB).trans hcB
  have n0 : ((w.alloc (.cells #[.string x.path, .bool x.dir, .int .i64 x.quota, .slice ax x.blocks.length cx, .int .i64 x.writer] 35 (0, 0))).alloc (.cells #[.string ⟨#[]⟩, .bool false, .int .i64 0, .slice none 0 0, .int .i64 0] 35 (0, 0))).heap[w.heap.size]? = some (.cells #[.string x.path, .bool x.dir, .int .i64 x.quota, .slice ax x.blocks.length cx, .int .i64 x.writer] 35 (0, 0)) := (heap_alloc_old _ _ (by simp)).trans (heap_alloc_new _ _)
  have n1 : ((w.alloc (.cells #[.string x.path, .bool x.dir, .int .i64 x.quota, .slice ax x.blocks.length cx, .int .i64 x.writer] 35 (0, 0))).alloc (.cells #[.string ⟨#[]⟩, .bool false, .int .i64 0, .slice none 0 0, .int .i64 0] 35 (0, 0))).heap[w.heap.size + 1]? = some (.cells #[.string ⟨#[]⟩, .bool false, .int .i64 0, .slice none 0 0, .int .i64 0] 35 (0, 0)) := by have := heap_alloc_new (w.alloc (.cells #[.string x.path, .bool x.dir, .int .i64 x.quota, .slice ax x.blocks.length cx, .int .i64 x.writer] 35 (0, 0))) (.cells #[.string ⟨#[]⟩, .bool false, .int .i64 0, .slice none 0 0, .int .i64 0] 35 (0, 0)); simpa using this
  generalize hw2 : (w.alloc (.cells #[.string x.path, .bool x.dir, .int .i64 x.quota, .slice ax x.blocks.length cx, .int .i64 x.writer] 35 (0, 0))).alloc (.cells #[.string ⟨#[]⟩, .bool false, .int .i64 0, .slice none 0 0, .int .i64 0] 35 (0, 0)) = w2 at *
  have hn := lt_of_block n1
  have hS : ∀ W, Below w2.heap.size w2 W → (W.cell? ⟨B, 0, none⟩ = some (.string p) ∧ W.cell? ⟨w.heap.size, 0, none⟩ = some (.string x.path) ∧ W.cell? ⟨w.heap.size, 1, none⟩ = some (.bool x.dir) ∧ W.cell? ⟨w.heap.size, 2, none⟩ = some (.int .i64 x.quota) ∧ W.cell? ⟨w.heap.size, 3, none⟩ = some (.slice ax x.blocks.length cx) ∧ W.cell? ⟨w.heap.size, 4, none⟩ = some (.int .i64 x.writer)) ∧
      (W.cell? ⟨w.heap.size + 1, 0, none⟩ = some (.string ⟨#[]⟩) ∧ W.cell? ⟨w.heap.size + 1, 1, none⟩ = some (.bool false) ∧ W.cell? ⟨w.heap.size + 1, 2, none⟩ = some (.int .i64 0) ∧ W.cell? ⟨w.heap.size + 1, 3, none⟩ = some (.slice none 0 0) ∧ W.cell? ⟨w.heap.size + 1, 4, none⟩ = some (.int .i64 0)) ∧
      (∀ j, W.frozen? ⟨w.heap.size + 1, j, none⟩ = false) ∧ W.heap[w.heap.size + 1]? = some (.cells #[.string ⟨#[]⟩, .bool false, .int .i64 0, .slice none 0 0, .int .i64 0] 35 (0, 0)) := fun W hW => by
    have e0 : W.heap[w.heap.size]? = some (.cells #[.string x.path, .bool x.dir, .int .i64 x.quota, .slice ax x.blocks.length cx, .int .i64 x.writer] 35 (0, 0)) := (hW.block _ (by omega)).trans n0
    have e1 : W.heap[w.heap.size + 1]? = some (.cells #[.string ⟨#[]⟩, .bool false, .int .i64 0, .slice none 0 0, .int .i64 0] 35 (0, 0)) := (hW.block _ hn).trans n1
    exact ⟨⟨(hW.cell (p := ⟨B, 0, none⟩) (by show B < _; omega)).trans c2, cell_of_blk e0, cell_of_blk e0, cell_of_blk e0, cell_of_blk e0, cell_of_blk e0⟩, ⟨cell_of_blk e1, cell_of_blk e1, cell_of_blk e1, cell_of_blk e1, cell_of_blk e1⟩, fun j => free_of_blk e1, e1⟩
  obtain ⟨⟨k0, k1, k2, k3, k4, k5⟩, ⟨y0, y1, y2, y3, y4⟩, fz, _⟩ := hS w2 (Below.refl _ _)
  have HS := Lib.hid hS
  clear hS hw2 n0 n1 c2 hcB
  have f0 := fz 0; have f1 := fz 1; have f2 := fz 2; have f3 := fz 3; have f4 := fz 4
  clear fz
  have hne1 : ¬ B = w.heap.size + 1 := by omega
  have hne2 : B ≠ w.heap.size + 1 := hne1
  have hne3 : w.heap.size + 1 ≠ B := by omega
  go_region_held3 (fun w' => w'.cell? ⟨B, 0, none⟩ = some (.string p) ∧ w'.cell? ⟨w.heap.size, 0, none⟩ = some (.string x.path) ∧ w'.cell? ⟨w.heap.size, 1, none⟩ = some (.bool x.dir) ∧ w'.cell? ⟨w.heap.size, 2, none⟩ = some (.int .i64 x.quota) ∧ w'.cell? ⟨w.heap.size, 3, none⟩ = some (.slice ax x.blocks.length cx) ∧ w'.cell? ⟨w.heap.size, 4, none⟩ = some (.int .i64 x.writer)) (go_keep)
    (first | (go_at_call 141; refine (HU.out _ ?_).mono ?_; (exact ⟨hb2.os, hb2.tape, hb2.output, hb2.size, hb2.block⟩); rintro e w' ⟨rfl, hb'⟩; obtain ⟨⟨l0, l1, l2, l3, l4, l5⟩, ⟨z0, z1, z2, z3, z4⟩, fz', e1'⟩ := HS.out w' ⟨hb'.os, hb'.tape, hb'.output, hb'.size, hb'.block⟩; have f5 := fz' 0; have f6 := fz' 1; have f7 := fz' 2; have f8 := fz' 3; have f9 := fz' 4; have E1 := Lib.hid e1'; clear e1' fz'))
  go_wp2_with (fail)
  have hr := heap_setCell_same _ _ 4 _ _ (.int .i64 x.writer) (heap_setCell_same _ _ 3 _ _ (.slice ax x.blocks.length cx) (heap_setCell_same _ _ 2 _ _ (.int .i64 x.quota) (heap_setCell_same _ _ 1 _ _ (.bool x.dir) (heap_setCell_same _ _ 0 _ _ (.string x.path) E1.out))))
  refine bodyPost_ret (results_cell_tmp rfl _ _ (w.heap.size + 1) _ _ _ rfl hr Tryz.underlying35 rfl (by kernel_rfl)) rfl ⟨rfl, ?_⟩
  have hw' : Below w.heap.size w w' := hb2.trans (Below.mono ⟨hb'.os, hb'.tape, hb'.output, hb'.size, hb'.block⟩ hb2.size)
  exact ((((hw'.setCell (by simp) _).setCell (by simp) _).setCell (by simp) _).setCell (by simp) _).setCell (by simp) _

/-- What Remove tells. -/
def rmE (l : List Nd) (p : Bs) : Int := if rightT l = true ∧ splitE p = 0 ∧ p ≠ [47] then (if (l.find? fun x => bs x.path == p).isSome = true then 0 else 5) else 1
def rmL (l : List Nd) (p : Bs) : List Nd := (l.filter fun x => !underL p (bs x.path)).map pur
def ResX (w : World) (E : Int) (L : List Nd) (e : Ending) (w' : World) : Prop := (∃ v' q, e = .returned (.tuple #[v', .int .i64 E]) ∧ OwnX w w' v' q ∧ q.map pur = (if E = 0 then L else [])) ∧ Below w.heap.size w w'
theorem ResX.no {w w' : World} {E : Int} {L : List Nd} (hE : E ≠ 0) (hb : Below w.heap.size w w') : ResX w E L (.returned (.tuple #[.slice none 0 0, .int .i64 E])) w' :=
  ⟨⟨_, [], rfl, OwnX.nil _ _, by rw [if_neg hE]; rfl⟩, hb⟩
theorem rem_choice (w : World) (B : Nat) (p : ByteArray) (l : List Nd) (hl : ∀ x ∈ l, ∃ ax cx, x.bv = .slice ax x.blocks.length cx) (hc : w.heap[B]? = some (.cells #[.string p] 9 (0, 0))) (hM : MaxC w) :
    Choice w (fun _ => False) 143 #[.pointer (some ⟨B, 0, none⟩)] l id (fun x => !underL (bs p) (bs x.path)) (fun _ _ => True) where
  calls W hW k x hx _ := by
    have hbw : Below w.heap.size w W := hW.toBelow (fun _ h => h.elim) (Nat.le_refl _)
    refine (rem1_calls W B p x (hl x (List.mem_of_getElem? hx)) ((hbw.block _ (lt_of_block hc)).trans hc) (hM.below hbw)).mono ?_
    rintro e w' ⟨he, hb⟩
    exact ⟨he, Upd.of_below hb _, trivial⟩
  keep _ _ _ _ _ := trivial
  bl _ _ := rfl
  old _ h := h.elim
  enters := enters Tryz.func143 (by rfl) (by rfl)
theorem perm_rises {q p : List Nd} (h : (q.map pur).Perm p) (hs : Sorted q) (hr : Rises p) : q.map pur = p := by
  have hs' : (q.map pur).Pairwise fun x y => ltB (bs y.path) (bs x.path) = false := List.pairwise_map.2 (hs.imp fun {a b} h => h)
  refine List.Perm.eq_of_pairwise (le := fun x y => ltB (bs y.path) (bs x.path) = false) (fun x y hx hy h1 h2 => ?_) hs' (hr.imp fun {a b} hab => lt_asym hab) h
  have hx' := h.mem_iff.1 hx
  obtain ⟨i, hi, rfl⟩ := List.mem_iff_getElem.1 hx'
  obtain ⟨j, hj, rfl⟩ := List.mem_iff_getElem.1 hy
  have e : bs p[i].path = bs p[j].path := by
    rcases lt_tri (bs p[i].path) (bs p[j].path) with h3 | h3 | h3
    · rw [h2] at h3; cases h3
    · exact h3
    · rw [h1] at h3; cases h3
  have := rises_inj hr (i := i) (j := j) (List.getElem?_eq_getElem hi) (List.getElem?_eq_getElem hj) e
  subst this; rfl
theorem rises_filter {l : List Nd} (h : Rises l) (b : Nd → Bool) : Rises ((l.filter b).map pur) := List.pairwise_map.2 ((h.filter b).imp fun {a b} h => h)
theorem right_len {l : List Nd} (h : rightT l = true) : l.length ≤ 60 := by
  simp only [rightT, rightA, Bool.and_eq_true] at h
  have h1 := h.1.1
  cases l with
  | nil => simp
  | cons x t =>
    simp only [headOk, Bool.and_eq_true] at h1
    simpa using h1.1.1
theorem fits_blocks {x : Nd} (h : fitsN x = true) : x.blocks.length ≤ 8 := by
  simp only [fitsN, Bool.and_eq_true] at h
  have := h.2
  split at this
  · simp at this; simp [this]
  · simp at this; omega
theorem right_fits {l : List Nd} (h : rightT l = true) {x : Nd} (hx : x ∈ l) : fitsN x = true := by
  obtain ⟨i, hi, rfl⟩ := List.mem_iff_getElem.1 hx
  simp only [rightT, rightA, Bool.and_eq_true] at h
  exact (rightA_at (l := l) (fun j hj => List.all_eq_true.1 h.1.2 j (List.mem_range.2 hj)) (List.getElem?_eq_getElem hi)).1
theorem right_blocks {l : List Nd} (h : rightT l = true) {x : Nd} (hx : x ∈ l) : x.blocks.length ≤ 8 := fits_blocks (right_fits h hx)
theorem under_root {p : Bs} (hp : p ≠ [47]) : underL p [47] = false := by
  cases h : underL p [47]
  · rfl
  · obtain ⟨h1, h2, h3⟩ := Path.under_iff.1 h
    have h4 : splitL [47] = [] := by decide
    rw [h4, List.prefix_nil] at h3
    have := (Path.split_ok h1).2
    rw [h3, Path.join_nil] at this
    exact absurd this.symm hp
theorem rem_keeps {l : List Nd} (h : rightT l = true) {p : Bs} (hp : p ≠ [47]) : ∃ x ∈ l, (!underL p (bs x.path)) = true := by
  obtain ⟨x, t, rfl, hx, _⟩ := right_head h
  exact ⟨x, List.mem_cons_self .., by rw [hx, under_root hp]; rfl⟩
theorem right_nonempty {l : List Nd} (h : rightT l = true) : ∃ x ∈ l, bs x.path = [47] := by
  obtain ⟨x, t, rfl, hx, _⟩ := right_head h
  exact ⟨x, List.mem_cons_self .., hx⟩

set_option maxRecDepth 4000 in
set_option maxHeartbeats 8000000 in
theorem remove_calls (w : World) (v : Value) (l : List Nd) (p : ByteArray) (h : RdN w v l) (hn : l.length ≤ 8796093022208) (hM : MaxC w) :
    Calls Tryz.prog 98 #[v, .string p] w (ResX w (rmE l (bs p)) (rmL l (bs p))) := by
  have hb0 : Below w.heap.size w (w.alloc (.cells #[.string p] 9 (0, 0))) := (Below.refl _ _).alloc (Nat.le_refl _) _
  have hsz0 : (w.alloc (.cells #[.string p] 9 (0, 0))).heap.size = w.heap.size + 1 := by simp
  have n0 : (w.alloc (.cells #[.string p] 9 (0, 0))).heap[w.heap.size]? = some (.cells #[.string p] 9 (0, 0)) := heap_alloc_new _ _
  obtain ⟨ao, cap, rfl, _, _, hcell⟩ := rd_cellsN h.rd
  have hbvs := fun x hx => bv_slice (h.bl x hx)
  generalize hw0 : w.alloc (.cells #[.string p] 9 (0, 0)) = w0 at *
  have h1 := right_calls w0 _ l (h.below hb0) hn (hM.below hb0)
  have h2 : ∀ W, Below w0.heap.size w0 W → _ := fun W hW => good_calls W p ((hM.below hb0).below hW)
  have hat := fun W (hW : Below w0.heap.size w0 W) hs => at_calls W _ l p ((h.below hb0).below hW) hs hn
  have hri := fun h => right_rises (l := l) h
  have hfi := has_find p l
  have hcs := fun W (hW : Below w0.heap.size w0 W) => (cell_of_blk (j := 0) ((hW.block _ (by omega)).trans n0) : W.cell? ⟨w.heap.size, 0, none⟩ = some (.string p))
  have Hcs := Lib.hid hcs; have H2 := Lib.hid h2; have Hat := Lib.hid hat; have Hfi := Lib.hid hfi; have Hh := Lib.hid h; have HM := Lib.hid hM; have Hbvs := Lib.hid hbvs; have Hri := Lib.hid hri
  have c0 := hcs w0 (Below.refl _ _)
  clear hcs h2 hat hfi h hM hbvs hcell hri
  have hsl : (p.toList == [47]) = (bs p == [47]) := by rw [tl_bs]
  have Hsl := Lib.hid hsl; clear hsl
  go_enter Tryz.func98, Tryz.ntmps98
  go_wp2_with (fail)
  refine h1.mono ?_
  rintro e w1 ⟨rfl, hb1⟩
  clear h1
  have c1 := Hcs.out w1 hb1
  cases hr : rightT l
  · have hE : rmE l (bs p) = 1 := by rw [rmE, hr]; simp
    clear hr
    go_wp2_with (fail)
    go_ret2
    rw [hE]
    exact ResX.no (E := 1) (by decide) (hb0.trans (hb1.mono hb0.size))
  · have h2 := H2.out w1 hb1
    go_wp2_with (fail)
    refine h2.mono ?_
    rintro e w2 ⟨rfl, hb2⟩
    have hB2 := hb1.trans (hb2.mono hb1.size)
    clear h2
    by_cases hs : splitE (bs p) = 0
    · rw [decide_eq_true hs]
      have c2 := Hcs.out w2 hB2
      have hB2w : Below w.heap.size w w2 := hb0.trans (hB2.mono hb0.size)
      cases hpe : (p.toList == [47])
      · have hp : bs p ≠ [47] := fun e => by rw [Hsl.out, e] at hpe; simp at hpe
        have ha := Hat.out w2 hB2 (Hri.out hr)
        rw [Hfi.out] at ha
        go_wp2_with (fail)
        refine ha.mono ?_
        rintro e w3 ⟨rfl, hb3⟩
        clear ha
        have hB3 := hB2.trans (hb3.mono hB2.size)
        have hB3w : Below w.heap.size w w3 := hb0.trans (hB3.mono hb0.size)
        have hE : rmE l (bs p) = if (l.find? fun x => bs x.path == bs p).isSome = true then 0 else 5 := by rw [rmE, if_pos ⟨hr, hs, hp⟩]
        cases hf : (l.find? fun x => bs x.path == bs p).isSome
        · rw [hf, if_neg (by simp)] at hE
          go_wp2_with (fail)
          go_ret2
          rw [hE]
          exact ResX.no (E := 5) (by decide) hB3w
        · rw [hf, if_pos rfl] at hE
          have hso := some_calls w w3 (fun _ => False) 143 #[.pointer (some ⟨w.heap.size, 0, none⟩)] _ l id (fun x => !underL (bs p) (bs x.path)) (fun _ _ => True) (rem_choice w3 w.heap.size p l Hbvs.out ((hB3.block _ (by omega)).trans n0) (HM.out.below hB3w)) Hh.out hB3w (fun _ h => h.elim) (by have := right_len hr; omega) (fun x hx => by have := right_blocks hr hx; omega) (rem_keeps hr hp) trivial
          have Hso := Lib.hid hso
          have Hr := Lib.hid (right_rises hr)
          clear hso hr hs hf hpe
          go_wp2_with (fail)
          refine Hso.out.mono ?_
          rintro e w4 ⟨⟨v', q, rfl, hO, hP, hS⟩, hU, -⟩
          go_wp2_with (fail)
          go_ret2
          rw [hE]
          refine ⟨⟨v', q, rfl, hO.up hB3w.size, ?_⟩, hB3w.trans (hU.toBelow (fun _ h => h.elim) hB3w.size)⟩
          rw [if_pos rfl, rmL]
          have e1 : preS l id (fun x => !underL (bs p) (bs x.path)) l.length = (l.filter fun x => !underL (bs p) (bs x.path)).map pur := by rw [preS, List.take_length, List.map_id]
          rw [e1] at hP
          exact perm_rises hP hS (rises_filter Hr.out _)
      · have hE : rmE l (bs p) = 1 := by rw [rmE, if_neg (fun h => h.2.2 (by rw [Hsl.out] at hpe; simpa using hpe))]
        go_wp2_with (fail)
        go_ret2
        rw [hE]
        exact ResX.no (E := 1) (by decide) hB2w
    · have hE : rmE l (bs p) = 1 := by rw [rmE, if_neg (fun h => hs h.2.1)]
      rw [decide_eq_false hs]
      clear hr hs
      go_wp2_with (fail)
      go_ret2
      rw [hE]
      exact ResX.no (E := 1) (by decide) (hb0.trans (hB2.mono hb0.size))
end Go.Proofs.YtdfckkadmgmcaaaGreatDoor.Tree

/- Trees: tree.Add. -/
namespace Go.Proofs.YtdfckkadmgmcaaaGreatDoor
open Go.RowKit
set_option linter.unusedSimpArgs false
set_option linter.unusedVariables false
section
variable {P : Program} {t e : TypeId} {size bytes : Nat} {w : World} {o : Oper} {a : Act} {ops : Array Oper} {rest : List Oper} {Q : Exit → Act → World → Prop} {K : Act → World → Prop} {E : Prop}
/-- append of one element to a slice that is full, whoever owns it: a new row. -/
theorem ET.wp_full (T : ET P t e size bytes) {b : Addr} {n : Nat} {xs : List Value} (hlo : xs.length = n * size) (holds : ∀ j u, xs[j]? = some u → w.cell? (b.add j) = some u) (hone : ∀ u ∈ xs, u.oneCell' = true)
    {B : Nat} {cs : Array Value} (hB : w.heap[B]? = some (.cells cs e (0, 0))) (hcs : cs.size = size) (h1 : ∀ u ∈ cs.toList, u.oneCell' = true) (hb : (n + 1) * bytes ≤ 140737488355328) (h63 : n + 1 ≤ maxLen)
    (s x : Operand) (ho : o.op = .call { callee := .builtin .append, args := #[s, x], argTypes := #[t, t] }) (hs : a.eval s = .slice (some b) n n) (hx : a.eval x = .slice (some ⟨B, 0, none⟩) 1 1)
    (h : ∀ cap w', w'.ownsRow 0 e size (.slice (some ⟨w.heap.size, 0, none⟩) (n + 1) cap) (n + 1) (xs ++ cs.toList) → Below w.heap.size w w' → K (a.put o.dst (.slice (some ⟨w.heap.size, 0, none⟩) (n + 1) cap)) w') : o.wp P a w K Q := by
  obtain ⟨i, z, hi, hz0, hz1, hz2, hz3, _⟩ := T.inf
  subst hz1 hz2
  have hcap := grownCap_ge w (n + 1) n e
  have hcl : cs.toList.length = 1 * i.size := by simpa using hcs
  have hrun := run_append_grow (P := P) (w := w) t o.type e i z T.und hi hz0 b n n xs hlo holds ⟨B, 0, none⟩ 1 1 cs.toList hcl (World.news_of_block hB) (by omega) (by unfold maxLen at h63; omega) (growslice_fits_succ (Nat.le_trans (Nat.mul_le_mul_right _ (Nat.le_succ n)) hb) (Nat.le_trans (show i.bytes ≤ (n + 1) * i.bytes from Nat.le_mul_of_pos_left _ (Nat.succ_pos n)) (by omega)))
  unfold Oper.wp
  simp [execOp, ho, resolve, invoke, builtin, hs, hx, hrun, Result.andThen]
  refine h (grownCap w (n + 1) n e) _ ?_ ?_
  · refine ⟨by rw [List.length_append, hlo, hcl, Nat.add_mul], .inr ⟨w.heap.size, grownCap w (n + 1) n e, _, rfl, Nat.zero_le _, heap_alloc_new w.drew _, hcap, grownCap_le_maxLen _ _ _ _ h63, ?_, ?_⟩⟩
    · simp [hlo, hcs, zeroCells_len, hz3]
      rw [show grownCap w (n + 1) n e = n + 1 + (grownCap w (n + 1) n e - (n + 1)) by omega, Nat.add_sub_cancel_left, Nat.add_mul, Nat.add_mul, Nat.one_mul, Nat.add_assoc]
    · have hl : (xs ++ cs.toList).length = (n + 1) * i.size := by rw [List.length_append, hlo, hcl, Nat.add_mul]
      simp only [Array.toList_append, List.append_assoc]
      rw [← List.append_assoc, List.take_append_of_le_length (by omega), List.take_of_length_le (by omega)]
  · exact Below.alloc (a := w) (w := w.drew) ⟨rfl, rfl, rfl, Nat.le_refl _, fun _ _ => rfl⟩ (Nat.le_refl _) _
theorem ET.step_full (T : ET P t e size bytes) {b : Addr} {n : Nat} {xs : List Value} (hlo : xs.length = n * size) (holds : ∀ j u, xs[j]? = some u → w.cell? (b.add j) = some u) (hone : ∀ u ∈ xs, u.oneCell' = true)
    {B : Nat} {cs : Array Value} (hB : w.heap[B]? = some (.cells cs e (0, 0))) (hcs : cs.size = size) (h1 : ∀ u ∈ cs.toList, u.oneCell' = true) (hb : (n + 1) * bytes ≤ 140737488355328) (h63 : n + 1 ≤ maxLen) (hgd : o.guard = none)
    (s x : Operand) (ho : o.op = .call { callee := .builtin .append, args := #[s, x], argTypes := #[t, t] }) (hs : a.eval s = .slice (some b) n n) (hx : a.eval x = .slice (some ⟨B, 0, none⟩) 1 1)
    (h : ∀ cap w', w'.ownsRow 0 e size (.slice (some ⟨w.heap.size, 0, none⟩) (n + 1) cap) (n + 1) (xs ++ cs.toList) → Below w.heap.size w w' → K (a.put o.dst (.slice (some ⟨w.heap.size, 0, none⟩) (n + 1) cap)) w') :
    if Region.wanted o (yielded ops a.tmps) = true then Oper.wp P o a w K Q else E := by
  rw [if_pos (by simp [Region.wanted, hgd])]
  exact T.wp_full hlo holds hone hB hcs h1 hb h63 s x ho hs hx h
end
end Go.Proofs.YtdfckkadmgmcaaaGreatDoor
namespace Go.Proofs.YtdfckkadmgmcaaaGreatDoor.Tree
open Go.RowKit
open Path (Bs bs mk bs_mk mk_bs tl_bs splitE splitL MaxC parD parE parN underL under_calls)
set_option linter.unusedSimpArgs false
set_option linter.unusedVariables false

set_option maxHeartbeats 4000000 in
theorem add1_calls (w : World) (x : Nd) (hx : ∃ ax cx, x.bv = .slice ax x.blocks.length cx) :
    Calls Tryz.prog 139 #[.agg #[.string x.path, .bool x.dir, .int .i64 x.quota, x.bv, .int .i64 x.writer]] w fun e w' => e = .returned (.tuple #[.agg #[.string x.path, .bool x.dir, .int .i64 x.quota, x.bv, .int .i64 x.writer], .bool true]) ∧ Below w.heap.size w w' := by
  obtain ⟨ax, cx, hv⟩ := hx
  rw [hv]
  clear hv
  go_enter Tryz.func139, Tryz.ntmps139
  go_wp2_with (fail)
  have n1 : ((w.alloc (.cells #[.string x.path, .bool x.dir, .int .i64 x.quota, .slice ax x.blocks.length cx, .int .i64 x.writer] 35 (0, 0))).alloc (.cells #[.string x.path, .bool x.dir, .int .i64 x.quota, .slice ax x.blocks.length cx, .int .i64 x.writer] 35 (0, 0))).heap[w.heap.size + 1]? = some (.cells #[.string x.path, .bool x.dir, .int .i64 x.quota, .slice ax x.blocks.length cx, .int .i64 x.writer] 35 (0, 0)) := by have := heap_alloc_new (w.alloc (.cells #[.string x.path, .bool x.dir, .int .i64 x.quota, .slice ax x.blocks.length cx, .int .i64 x.writer] 35 (0, 0))) (.cells #[.string x.path, .bool x.dir, .int .i64 x.quota, .slice ax x.blocks.length cx, .int .i64 x.writer] 35 (0, 0)); simpa using this
  refine bodyPost_ret (results_cell_tmp rfl _ _ (w.heap.size + 1) _ _ _ rfl n1 Tryz.underlying35 rfl (by kernel_rfl)) rfl ⟨rfl, ?_⟩
  exact ((Below.refl _ _).alloc (Nat.le_refl _) _).alloc (by simp) _
theorem add_choice (w : World) (l : List Nd) (hl : ∀ x ∈ l, ∃ ax cx, x.bv = .slice ax x.blocks.length cx) : Choice w (fun _ => False) 139 #[] l id (fun _ => true) (fun _ _ => True) where
  calls W hW k x hx _ := by
    refine (add1_calls W x (hl x (List.mem_of_getElem? hx))).mono ?_
    rintro e w' ⟨he, hb⟩
    exact ⟨he, Upd.of_below hb _, trivial⟩
  keep _ _ _ _ _ := trivial
  bl _ _ := rfl
  old _ h := h.elim
  enters := enters Tryz.func139 (by rfl) (by rfl)
set_option maxHeartbeats 1000000 in
theorem clip_calls (w : World) (b off n cap : Nat) (h : n ≤ cap) (hc : cap ≤ maxLen) :
    Calls Tryz.prog 138 #[.slice (some ⟨b, off, none⟩) n cap] w fun e w' => e = .returned (.slice (some ⟨b, off, none⟩) n n) ∧ w' = w := by
  go_enter Tryz.func138, Tryz.ntmps138
  go_wp2_with (fail)
  go_ret
  exact ⟨rfl, rfl⟩

/-- A node in its place. -/
def ins (n : Nd) : List Nd → List Nd
  | [] => [n]
  | y :: t => if ltB (bs n.path) (bs y.path) = true then n :: y :: t else y :: ins n t
theorem ins_perm (n : Nd) : ∀ l : List Nd, (ins n l).Perm (n :: l)
  | [] => List.Perm.refl _
  | y :: t => by
    rw [ins]
    split
    · exact List.Perm.refl _
    · exact ((ins_perm n t).cons y).trans (List.Perm.swap n y t)
theorem ins_sorted {n : Nd} : ∀ {l : List Nd}, Sorted l → Sorted (ins n l)
  | [], _ => List.pairwise_singleton _ _
  | y :: t, h => by
    rw [ins]
    have h' := List.pairwise_cons.1 h
    split
    · rename_i hlt
      refine List.pairwise_cons.2 ⟨fun a ha => ?_, h⟩
      rcases List.mem_cons.1 ha with rfl | ha
      · exact lt_asym hlt
      · cases hx : ltB (bs a.path) (bs n.path)
        · rfl
        · have := h'.1 a ha
          rw [lt_trans _ _ _ hx hlt] at this; cases this
    · rename_i hlt
      refine List.pairwise_cons.2 ⟨fun a ha => ?_, ins_sorted h'.2⟩
      rcases List.mem_cons.1 ((ins_perm n t).mem_iff.1 ha) with rfl | ha
      · simpa using hlt
      · exact h'.1 a ha
/-- Sorted, and no path twice. -/
theorem sorted_rises {l : List Nd} (h : Sorted l) (hd : (l.map fun x => bs x.path).Nodup) : Rises l := by
  have hd' := List.pairwise_map.1 hd
  refine (h.and hd').imp fun {a b} hab => ?_
  rcases lt_tri (bs a.path) (bs b.path) with h3 | h3 | h3
  · exact h3
  · exact absurd h3 hab.2
  · rw [hab.1] at h3; cases h3
theorem rises_sorted {l : List Nd} (h : Rises l) : Sorted l := h.imp fun {a b} hab => lt_asym hab
theorem rises_nodup {l : List Nd} (h : Rises l) : (l.map fun x => bs x.path).Nodup := List.pairwise_map.2 (h.imp fun {a b} hab => lt_ne hab)
theorem rises_ins {n : Nd} {l : List Nd} (h : Rises l) (hn : ∀ y ∈ l, bs y.path ≠ bs n.path) : Rises (ins n l) := by
  refine sorted_rises (ins_sorted (rises_sorted h)) ?_
  refine (((ins_perm n l).map fun x => bs x.path).nodup_iff).2 ?_
  rw [List.map_cons, List.nodup_cons]
  refine ⟨fun hm => ?_, rises_nodup h⟩
  obtain ⟨y, hy, e⟩ := List.mem_map.1 hm
  exact hn y hy e
def addE (l : List Nd) (n : Nd) : Int := if rightT l = true ∧ fitsN n = true ∧ bs n.path ≠ [47] then (if (l.find? fun x => bs x.path == bs n.path).isSome = true then 6 else if dirE l (bs n.path) ≠ 0 then dirE l (bs n.path) else if 60 ≤ l.length then 4 else 0) else 1
def addL (l : List Nd) (n : Nd) : List Nd := (ins n l).map pur
theorem preS_all (l : List Nd) : preS l id (fun _ => true) l.length = l.map pur := by
  rw [preS, List.take_length, List.map_id, List.filter_eq_self.2 (fun _ _ => rfl)]
theorem some_all (w w5 : World) (v : Value) (l : List Nd) (n : Nd) (hB : Below w.heap.size w w5) (h : RdN w5 v (l ++ [n])) (hr : Rises l) (hl : l.length ≤ 60) (hbl : ∀ x ∈ l ++ [n], x.blocks.length ≤ 8) (hn : ∀ y ∈ l, bs y.path ≠ bs n.path) :
    Calls Tryz.prog 137 #[v, .func (.func 139) #[] #[]] w5 fun e w' => (∃ v' q, e = .returned v' ∧ OwnX w w' v' q ∧ q.map pur = addL l n) ∧ Below w5.heap.size w5 w' := by
  have hso := some_calls w5 w5 (fun _ => False) 139 #[] v (l ++ [n]) id (fun _ => true) (fun _ _ => True) (add_choice w5 _ fun x hx => bv_slice (h.bl x hx)) h (Below.refl _ _) (fun _ h => h.elim) (by rw [List.length_append]; simp; omega) (fun x hx => by have := hbl x hx; omega) ⟨n, by simp, rfl⟩ trivial
  refine hso.mono ?_
  rintro e w' ⟨⟨v', q, rfl, hO, hP, hS⟩, hU, -⟩
  refine ⟨⟨v', q, rfl, hO.up hB.size, ?_⟩, hU.toBelow (fun _ h => h.elim) (Nat.le_refl _)⟩
  rw [preS_all] at hP
  refine perm_rises (hP.trans ?_) hS (List.pairwise_map.2 ((rises_ins hr hn).imp fun {a b} h => h))
  exact ((List.perm_append_singleton n l).trans (ins_perm n l).symm).map pur
theorem rd_app {w w5 : World} {b : Addr} {cap0 g cap : Nat} {l : List Nd} {n : Nd} (h : RdN w (.slice (some b) l.length cap0) l) (hn : Rd w 3 encB n.bv n.blocks) (hB : Below w.heap.size w w5) (ho : w5.ownsRow 0 35 5 (.slice (some ⟨g, 0, none⟩) (l.length + 1) cap) (l.length + 1) (flatN l ++ encN n)) : RdN w5 (.slice (some ⟨g, 0, none⟩) (l.length + 1) cap) (l ++ [n]) := by
  refine ⟨Rd.of_own (base := 0) (e := 35) encN_len ?_, fun x hx => ?_⟩
  · rw [show (l ++ [n]).length = l.length + 1 by simp, show (l ++ [n]).flatMap encN = flatN l ++ encN n from flatN_snoc l n]
    exact ho
  · rcases List.mem_append.1 hx with hx | hx
    · exact (h.bl x hx).below hB (Nat.le_refl _)
    · rw [List.mem_singleton] at hx
      subst hx
      exact hn.below hB (Nat.le_refl _)
end Go.Proofs.YtdfckkadmgmcaaaGreatDoor.Tree

/- Trees: tree.Add, walked. -/
namespace Go.Proofs.YtdfckkadmgmcaaaGreatDoor.Tree
open Go.RowKit
open Path (Bs bs mk bs_mk mk_bs tl_bs splitE splitL MaxC parD parE parN underL under_calls)
set_option linter.unusedSimpArgs false
set_option linter.unusedVariables false

set_option maxRecDepth 4000 in
set_option maxHeartbeats 8000000 in
theorem add_calls (w : World) (v : Value) (l : List Nd) (x : Nd) (h : RdN w v l) (hx : Rd w 3 encB x.bv x.blocks) (hn : l.length ≤ 8796093022208) (hM : MaxC w) :
    Calls Tryz.prog 93 #[v, .agg #[.string x.path, .bool x.dir, .int .i64 x.quota, x.bv, .int .i64 x.writer]] w (ResX w (addE l x) (addL l x)) := by
  obtain ⟨ax, cx, hbv⟩ := bv_slice hx
  have hb0 : Below w.heap.size w (w.alloc (.cells #[.string x.path, .bool x.dir, .int .i64 x.quota, .slice ax x.blocks.length cx, .int .i64 x.writer] 35 (0, 0))) := (Below.refl _ _).alloc (Nat.le_refl _) _
  have hsz0 : (w.alloc (.cells #[.string x.path, .bool x.dir, .int .i64 x.quota, .slice ax x.blocks.length cx, .int .i64 x.writer] 35 (0, 0))).heap.size = w.heap.size + 1 := by simp
  have n0 : (w.alloc (.cells #[.string x.path, .bool x.dir, .int .i64 x.quota, .slice ax x.blocks.length cx, .int .i64 x.writer] 35 (0, 0))).heap[w.heap.size]? = some (.cells #[.string x.path, .bool x.dir, .int .i64 x.quota, .slice ax x.blocks.length cx, .int .i64 x.writer] 35 (0, 0)) := heap_alloc_new _ _
  obtain ⟨ao, cap, rfl, hlc, hcm, hcell⟩ := rd_cellsN h.rd
  rw [hbv]
  generalize hw0 : w.alloc (.cells #[.string x.path, .bool x.dir, .int .i64 x.quota, .slice ax x.blocks.length cx, .int .i64 x.writer] 35 (0, 0)) = w0 at *
  have h1 := right_calls w0 _ l (h.below hb0) hn (hM.below hb0)
  have h2 : ∀ W, Below w0.heap.size w0 W → _ := fun W hW => fits_calls W x ((hx.below hb0 (Nat.le_refl _)).below hW (Nat.le_refl _)) ((hM.below hb0).below hW)
  simp only [hbv] at h2
  have hat := fun W (hW : Below w0.heap.size w0 W) hs => at_calls W _ l x.path ((h.below hb0).below hW) hs hn
  have hdr := fun W (hW : Below w0.heap.size w0 W) hs => dir_calls W _ l x.path ((h.below hb0).below hW) hs hn ((hM.below hb0).below hW)
  have hri := fun h => right_rises (l := l) h
  have hfi := has_find x.path l
  have hcs : ∀ W, Below w0.heap.size w0 W → W.cell? ⟨w.heap.size, 0, none⟩ = some (.string x.path) ∧ W.cell? ⟨w.heap.size, 1, none⟩ = some (.bool x.dir) ∧ W.cell? ⟨w.heap.size, 2, none⟩ = some (.int .i64 x.quota) ∧ W.cell? ⟨w.heap.size, 3, none⟩ = some (.slice ax x.blocks.length cx) ∧ W.cell? ⟨w.heap.size, 4, none⟩ = some (.int .i64 x.writer) := fun W hW => by
    have e := (hW.block _ (by omega)).trans n0
    exact ⟨cell_of_blk e, cell_of_blk e, cell_of_blk e, cell_of_blk e, cell_of_blk e⟩
  have Hcs := Lib.hid hcs; have H2 := Lib.hid h2; have Hat := Lib.hid hat; have Hdr := Lib.hid hdr; have Hfi := Lib.hid hfi; have Hh := Lib.hid h; have HM := Lib.hid hM; have Hx := Lib.hid hx; have Hri := Lib.hid hri; have Hbv := Lib.hid hbv
  have hsl : (x.path.toList == [47]) = (bs x.path == [47]) := by rw [tl_bs]
  have Hsl := Lib.hid hsl
  have Hcell := Lib.hid hcell
  clear hcs h2 hat hfi h hM hcell hri hdr hbv hsl hx
  go_enter Tryz.func93, Tryz.ntmps93
  go_wp2_with (fail)
  refine h1.mono ?_
  rintro e w1 ⟨rfl, hb1⟩
  clear h1
  have ⟨c0, c1, c2, c3, c4⟩ := Hcs.out w1 hb1
  cases hr : rightT l
  · have hE : addE l x = 1 := by rw [addE, hr]; simp
    clear hr
    go_wp2_with (fail)
    go_ret2
    rw [hE]
    exact ResX.no (E := 1) (by decide) (hb0.trans (hb1.mono hb0.size))
  · have h2 := H2.out w1 hb1
    go_wp2_with (fail)
    refine h2.mono ?_
    rintro e w2 ⟨rfl, hb2⟩
    have hB2 := hb1.trans (hb2.mono hb1.size)
    have hB2w : Below w.heap.size w w2 := hb0.trans (hB2.mono hb0.size)
    clear h2 c0 c1 c2 c3 c4
    have ⟨c0, c1, c2, c3, c4⟩ := Hcs.out w2 hB2
    cases hf : fitsN x
    · have hE : addE l x = 1 := by rw [addE, hf]; simp
      clear hr hf
      go_wp2_with (fail)
      go_ret2
      rw [hE]
      exact ResX.no (E := 1) (by decide) hB2w
    · cases hpe : (x.path.toList == [47])
      · have hp : bs x.path ≠ [47] := fun e => by rw [Hsl.out, e] at hpe; simp at hpe
        have ha := Hat.out w2 hB2 (Hri.out hr)
        rw [Hfi.out] at ha
        have hE : addE l x = if (l.find? fun y => bs y.path == bs x.path).isSome = true then 6 else if dirE l (bs x.path) ≠ 0 then dirE l (bs x.path) else if 60 ≤ l.length then 4 else 0 := by rw [addE, if_pos ⟨hr, hf, hp⟩]
        have HE := Lib.hid hE; have Hr := Lib.hid hr; have Hf := Lib.hid hf; have Hp := Lib.hid hp
        clear hE hr hf hp
        go_wp2_with (fail)
        refine ha.mono ?_
        rintro e w3 ⟨rfl, hb3⟩
        clear ha c0 c1 c2 c3 c4
        have hB3 := hB2.trans (hb3.mono hB2.size)
        have hB3w : Below w.heap.size w w3 := hb0.trans (hB3.mono hb0.size)
        have ⟨c0, c1, c2, c3, c4⟩ := Hcs.out w3 hB3
        cases hfs : (l.find? fun y => bs y.path == bs x.path).isSome
        · have hd := Hdr.out w3 hB3 (Hri.out Hr.out)
          have Hfs := Lib.hid hfs; clear hfs
          go_wp2_with (fail)
          refine hd.mono ?_
          rintro e w4 ⟨rfl, hb4⟩
          clear hd c0 c1 c2 c3 c4
          have hB4 := hB3.trans (hb4.mono hB3.size)
          have hB4w : Below w.heap.size w w4 := hb0.trans (hB4.mono hb0.size)
          have ⟨c0, c1, c2, c3, c4⟩ := Hcs.out w4 hB4
          by_cases hde : dirE l (bs x.path) = 0
          · rw [hde]
            by_cases h60 : 60 ≤ l.length
            · go_wp2_with (fail)
              go_ret2
              rw [HE.out, Hfs.out, hde, if_neg (by simp), if_neg (by simp), if_pos h60]
              exact ResX.no (E := 4) (by decide) hB4w
            · obtain ⟨b, off, rfl⟩ : ∃ b off, ao = some ⟨b, off, none⟩ := by
                obtain ⟨y, t, hyt, _⟩ := right_head Hr.out
                obtain ⟨b, off, e, _⟩ := Hcell.out w (Below.refl _ _) 0 y (by rw [hyt]; rfl)
                exact ⟨b, off, e⟩
              have hbl8 : ∀ y ∈ l ++ [x], y.blocks.length ≤ 8 := fun y hy => by
                rcases List.mem_append.1 hy with hy | hy
                · exact right_blocks Hr.out hy
                · rw [List.mem_singleton] at hy; subst hy; exact fits_blocks Hf.out
              have hne : ∀ y ∈ l, bs y.path ≠ bs x.path := fun y hy e => by
                have h1 := Hfs.out
                rw [Option.isSome_eq_false_iff, Option.isNone_iff_eq_none, List.find?_eq_none] at h1
                exact h1 y hy (by simpa using e)
              have hsome := fun w5 v5 (hB : Below w.heap.size w w5) (hr5 : RdN w5 v5 (l ++ [x])) => some_all w w5 v5 l x hB hr5 (right_rises Hr.out) (by omega) hbl8 hne
              have hflat : ∀ W, Below w.heap.size w W → ∀ j u, (flatN l)[j]? = some u → W.cell? ((⟨b, off, none⟩ : Addr).add j) = some u := fun W hW j u hu => by
                obtain ⟨ao, cap', hv, hf⟩ := rdN_flat Hh.out.rd
                simp only [Value.slice.injEq] at hv
                exact hf W hW _ hv.1.symm j u hu
              have hone := flatN_one (l := l) Hh.out.bl
              have hBd : Below w.heap.size w (w4.drew.alloc (.cells #[.string x.path, .bool x.dir, .int .i64 x.quota, .slice ax x.blocks.length cx, .int .i64 x.writer] 35 (0, 0))) := Below.alloc (a := w) (w := w4.drew) ⟨hB4w.os, hB4w.tape, hB4w.output, hB4w.size, hB4w.block⟩ hB4w.size _
              have hBd0 : Below w0.heap.size w0 (w4.drew.alloc (.cells #[.string x.path, .bool x.dir, .int .i64 x.quota, .slice ax x.blocks.length cx, .int .i64 x.writer] 35 (0, 0))) := Below.alloc (a := w0) (w := w4.drew) ⟨hB4.os, hB4.tape, hB4.output, hB4.size, hB4.block⟩ hB4.size _
              have hsd : (w4.drew.alloc (.cells #[.string x.path, .bool x.dir, .int .i64 x.quota, .slice ax x.blocks.length cx, .int .i64 x.writer] 35 (0, 0))).heap.size = w4.heap.size + 1 := by simp
              have hnd : (w4.drew.alloc (.cells #[.string x.path, .bool x.dir, .int .i64 x.quota, .slice ax x.blocks.length cx, .int .i64 x.writer] 35 (0, 0))).heap[w4.heap.size]? = some (.cells #[.string x.path, .bool x.dir, .int .i64 x.quota, .slice ax x.blocks.length cx, .int .i64 x.writer] 35 (0, 0)) := heap_alloc_new w4.drew _
              have hfl := hflat _ hBd
              have hen : encN x = [.string x.path, .bool x.dir, .int .i64 x.quota, .slice ax x.blocks.length cx, .int .i64 x.writer] := by rw [encN, Hbv.out]
              have Hen := Lib.hid hen; clear hen
              have Hsz4 := Lib.hid (show (w4.alloc (.cells #[.string x.path, .bool x.dir, .int .i64 x.quota, .slice ax x.blocks.length cx, .int .i64 x.writer] 35 (0, 0))).drew.heap.size = w4.heap.size + 1 by simp)
              have Hsome := Lib.hid hsome; have Hfl := Lib.hid hfl; have Hone := Lib.hid hone; have Hnd := Lib.hid hnd; have HBd := Lib.hid hBd; have HBd0 := Lib.hid hBd0
              clear hsome hfl hone hnd hBd hBd0 hflat hne hbl8
              go_wp2_with (fail)
              go_region_held3 (fun w' => w'.cell? ⟨w.heap.size, 0, none⟩ = some (.string x.path) ∧ w'.cell? ⟨w.heap.size, 1, none⟩ = some (.bool x.dir) ∧ w'.cell? ⟨w.heap.size, 2, none⟩ = some (.int .i64 x.quota) ∧ w'.cell? ⟨w.heap.size, 3, none⟩ = some (.slice ax x.blocks.length cx) ∧ w'.cell? ⟨w.heap.size, 4, none⟩ = some (.int .i64 x.writer)) (go_keep)
                (first
                  | (refine etN.step_full (b := ⟨b, off, none⟩) (n := l.length) (xs := flatN l) (flatN_len l) Hfl.out Hone.out Hnd.out rfl (by simp [Value.oneCell']) (by omega) (by unfold maxLen; omega) rfl (.tmp 41) (.tmp 43) rfl rfl rfl ?_; intro cap1 w5 hown5 hb5; have hB5 := HBd.out.trans (hb5.mono HBd.out.size); have ⟨d0, d1, d2, d3, d4⟩ := Hcs.out w5 (HBd0.out.trans (hb5.mono HBd0.out.size)))
                  | (go_at_call 138; refine (clip_calls _ b off l.length cap hlc hcm).mono ?_; rintro e w' ⟨rfl, rfl⟩)
                  | (go_at_call 137; refine (Hsome.out _ _ hB5 (rd_app Hh.out Hx.out hB5 (by rw [Hen.out]; have h5 := hown5; rw [Hsz4.out] at h5; exact h5))).mono ?_; rintro e w6 ⟨⟨v6, q6, rfl, hO6, hq6⟩, hb6⟩; have ⟨e0, e1, e2, e3, e4⟩ := Hcs.out w6 ((HBd0.out.trans (hb5.mono HBd0.out.size)).trans (hb6.mono (Nat.le_trans HBd0.out.size hb5.size)))))
              all_goals
                go_wp2_with (fail)
                go_ret2
                rw [HE.out, Hfs.out, hde, if_neg (by simp), if_neg (by simp), if_neg h60]
                exact ⟨⟨v6, q6, rfl, hO6, by rw [if_pos rfl]; exact hq6⟩, hB5.trans (hb6.mono hB5.size)⟩
          · have hdb : (dirE l (bs x.path) == 0) = false := by simpa using hde
            go_wp2_with (fail)
            go_ret2
            rw [HE.out, Hfs.out, if_neg (by simp), if_pos hde]
            exact ResX.no hde hB4w
        · go_wp2_with (fail)
          go_ret2
          rw [HE.out, hfs, if_pos rfl]
          exact ResX.no (E := 6) (by decide) hB3w
      · have hE : addE l x = 1 := by rw [addE, if_neg (fun h => h.2.2 (by rw [Hsl.out] at hpe; simpa using hpe))]
        clear hr hf
        go_wp2_with (fail)
        go_ret2
        rw [hE]
        exact ResX.no (E := 1) (by decide) hB2w
end Go.Proofs.YtdfckkadmgmcaaaGreatDoor.Tree

/- Trees: what Move does to each node. -/
namespace Go.Proofs.YtdfckkadmgmcaaaGreatDoor.Tree
open Go.RowKit
open Path (Bs bs mk bs_mk mk_bs tl_bs splitE splitL MaxC parD parE parN underL under_calls moveE moveS move_calls)
set_option linter.unusedSimpArgs false
set_option linter.unusedVariables false

def mvN (a b : Bs) (x : Nd) : Nd := if underL a (bs x.path) = true then { x with path := mk (moveS (bs x.path) a b) } else x
def mvK (a b : Bs) (x : Nd) : Bool := underL a (bs x.path) || !(bs x.path == b)
def mvBad (a b : Bs) (x : Nd) : Bool := underL a (bs x.path) && decide (moveE (bs x.path) a b ≠ 0)
set_option maxHeartbeats 4000000 in
theorem mv1_calls (w : World) (A B C : Nat) (p q : ByteArray) (g : Bool) (x : Nd) (hx : ∃ ax cx, x.bv = .slice ax x.blocks.length cx) (hA : w.heap[A]? = some (.cells #[.string p] 9 (0, 0))) (hB : w.heap[B]? = some (.cells #[.string q] 9 (0, 0))) (hC : w.heap[C]? = some (.cells #[.bool g] 4 (0, 0))) (hAC : A ≠ C) (hBC : B ≠ C) (hM : MaxC w) :
    Calls Tryz.prog 144 #[.agg #[.string x.path, .bool x.dir, .int .i64 x.quota, x.bv, .int .i64 x.writer], .pointer (some ⟨A, 0, none⟩), .pointer (some ⟨B, 0, none⟩), .pointer (some ⟨C, 0, none⟩)] w fun e w' =>
      e = .returned (.tuple #[.agg #[.string (mvN (bs p) (bs q) x).path, .bool (mvN (bs p) (bs q) x).dir, .int .i64 (mvN (bs p) (bs q) x).quota, x.bv, .int .i64 (mvN (bs p) (bs q) x).writer], .bool (mvK (bs p) (bs q) x)]) ∧ Upd (fun i => i = C) w w' ∧
        w'.heap[C]? = some (.cells #[.bool (g || mvBad (bs p) (bs q) x)] 4 (0, 0)) := by
  obtain ⟨ax, cx, hv⟩ := hx
  rw [hv]
  have hU := fun W (hW : Below w.heap.size w W) => under_calls W p x.path (hM.below hW)
  have hMv := fun W (hW : Below w.heap.size w W) => move_calls W x.path p q (hM.below hW)
  have hkA : ∀ W, Below w.heap.size w W → W.cell? ⟨A, 0, none⟩ = some (.string p) := fun W hW => cell_of_blk (j := 0) ((hW.block _ (lt_of_block hA)).trans hA)
  have hkB : ∀ W, Below w.heap.size w W → W.cell? ⟨B, 0, none⟩ = some (.string q) := fun W hW => cell_of_blk (j := 0) ((hW.block _ (lt_of_block hB)).trans hB)
  have hkC : ∀ W, Below w.heap.size w W → W.cell? ⟨C, 0, none⟩ = some (.bool g) ∧ W.frozen? ⟨C, 0, none⟩ = false := fun W hW => ⟨cell_of_blk (j := 0) ((hW.block _ (lt_of_block hC)).trans hC), free_of_blk (j := 0) ((hW.block _ (lt_of_block hC)).trans hC)⟩
  have lA := lt_of_block hA
  have lB := lt_of_block hB
  have lC := lt_of_block hC
  have hb2 : Below w.heap.size w ((w.alloc (.cells #[.string x.path, .bool x.dir, .int .i64 x.quota, .slice ax x.blocks.length cx, .int .i64 x.writer] 35 (0, 0))).alloc (.cells #[.string ⟨#[]⟩, .bool false, .int .i64 0, .slice none 0 0, .int .i64 0] 35 (0, 0))) := ((Below.refl _ _).alloc (Nat.le_refl _) _).alloc (by simp) _
  have n0 : ((w.alloc (.cells #[.string x.path, .bool x.dir, .int .i64 x.quota, .slice ax x.blocks.length cx, .int .i64 x.writer] 35 (0, 0))).alloc (.cells #[.string ⟨#[]⟩, .bool false, .int .i64 0, .slice none 0 0, .int .i64 0] 35 (0, 0))).heap[w.heap.size]? = some (.cells #[.string x.path, .bool x.dir, .int .i64 x.quota, .slice ax x.blocks.length cx, .int .i64 x.writer] 35 (0, 0)) := (heap_alloc_old _ _ (by simp)).trans (heap_alloc_new _ _)
  have n1 : ((w.alloc (.cells #[.string x.path, .bool x.dir, .int .i64 x.quota, .slice ax x.blocks.length cx, .int .i64 x.writer] 35 (0, 0))).alloc (.cells #[.string ⟨#[]⟩, .bool false, .int .i64 0, .slice none 0 0, .int .i64 0] 35 (0, 0))).heap[w.heap.size + 1]? = some (.cells #[.string ⟨#[]⟩, .bool false, .int .i64 0, .slice none 0 0, .int .i64 0] 35 (0, 0)) := by have := heap_alloc_new (w.alloc (.cells #[.string x.path, .bool x.dir, .int .i64 x.quota, .slice ax x.blocks.length cx, .int .i64 x.writer] 35 (0, 0))) (.cells #[.string ⟨#[]⟩, .bool false, .int .i64 0, .slice none 0 0, .int .i64 0] 35 (0, 0)); simpa using this
  generalize hw2 : (w.alloc (.cells #[.string x.path, .bool x.dir, .int .i64 x.quota, .slice ax x.blocks.length cx, .int .i64 x.writer] 35 (0, 0))).alloc (.cells #[.string ⟨#[]⟩, .bool false, .int .i64 0, .slice none 0 0, .int .i64 0] 35 (0, 0)) = w2 at *
  have hn := lt_of_block n1
  have kA := hkA w2 hb2
  have hS : ∀ W, Below w2.heap.size w2 W → (W.cell? ⟨w.heap.size, 0, none⟩ = some (.string x.path) ∧ W.cell? ⟨w.heap.size, 1, none⟩ = some (.bool x.dir) ∧ W.cell? ⟨w.heap.size, 2, none⟩ = some (.int .i64 x.quota) ∧ W.cell? ⟨w.heap.size, 3, none⟩ = some (.slice ax x.blocks.length cx) ∧ W.cell? ⟨w.heap.size, 4, none⟩ = some (.int .i64 x.writer)) ∧
      (W.cell? ⟨w.heap.size + 1, 0, none⟩ = some (.string ⟨#[]⟩) ∧ W.cell? ⟨w.heap.size + 1, 1, none⟩ = some (.bool false) ∧ W.cell? ⟨w.heap.size + 1, 2, none⟩ = some (.int .i64 0) ∧ W.cell? ⟨w.heap.size + 1, 3, none⟩ = some (.slice none 0 0) ∧ W.cell? ⟨w.heap.size + 1, 4, none⟩ = some (.int .i64 0)) ∧
      (∀ j, W.frozen? ⟨w.heap.size, j, none⟩ = false) ∧ (∀ j, W.frozen? ⟨w.heap.size + 1, j, none⟩ = false) ∧ W.heap[w.heap.size + 1]? = some (.cells #[.string ⟨#[]⟩, .bool false, .int .i64 0, .slice none 0 0, .int .i64 0] 35 (0, 0)) := fun W hW => by
    have e0 : W.heap[w.heap.size]? = some (.cells #[.string x.path, .bool x.dir, .int .i64 x.quota, .slice ax x.blocks.length cx, .int .i64 x.writer] 35 (0, 0)) := (hW.block _ (by omega)).trans n0
    have e1 : W.heap[w.heap.size + 1]? = some (.cells #[.string ⟨#[]⟩, .bool false, .int .i64 0, .slice none 0 0, .int .i64 0] 35 (0, 0)) := (hW.block _ hn).trans n1
    exact ⟨⟨cell_of_blk e0, cell_of_blk e0, cell_of_blk e0, cell_of_blk e0, cell_of_blk e0⟩, ⟨cell_of_blk e1, cell_of_blk e1, cell_of_blk e1, cell_of_blk e1, cell_of_blk e1⟩, fun j => free_of_blk e0, fun j => free_of_blk e1, e1⟩
  have HS := Lib.hid hS; clear hS
  have HU := Lib.hid hU; have HMv := Lib.hid hMv; have HkA := Lib.hid hkA; have HkB := Lib.hid hkB; have HkC := Lib.hid hkC; have HC := Lib.hid hC
  have e0 : w2.cell? ⟨w.heap.size, 0, none⟩ = some (.string x.path) := cell_of_blk n0
  have N0 := Lib.hid n0; have N1 := Lib.hid n1
  clear hU hMv hkA hkB hkC hA hB hC hv n0 n1
  go_enter Tryz.func144, Tryz.ntmps144
  go_wp2_with (fail)
  refine (HU.out _ hb2).mono ?_
  rintro e w3 ⟨rfl, hb3⟩
  have hB3 := hb2.trans (hb3.mono hb2.size)
  have hB23 := hb3
  obtain ⟨⟨k0, k1, k2, k3, k4⟩, ⟨y0, y1, y2, y3, y4⟩, fn, fz, N3⟩ := HS.out w3 hb3
  have ha3 := HkA.out w3 hB3
  have hq3 := HkB.out w3 hB3
  have f0 := fz 0; have f1 := fz 1; have f2 := fz 2; have f3 := fz 3; have f4 := fz 4
  clear fz
  have N3' := Lib.hid N3; clear N3
  cases hu : underL (bs p) (bs x.path)
  · have e1 : mvN (bs p) (bs q) x = x := by rw [mvN, hu]; rfl
    have e2 : mvK (bs p) (bs q) x = !(bs x.path == bs q) := by rw [mvK, hu]; rfl
    have e3 : mvBad (bs p) (bs q) x = false := by rw [mvBad, hu]; rfl
    have hsl : (x.path.toList == q.toList) = (bs x.path == bs q) := by rw [tl_bs, tl_bs]
    rw [← hsl] at e2
    have E1 := Lib.hid e1; have E2 := Lib.hid e2; have E3 := Lib.hid e3
    clear e1 e2 e3 hu hsl
    go_wp2_with (fail)
    have hne1 : ¬ B = w.heap.size + 1 := by omega
    have hne2 : B ≠ w.heap.size + 1 := hne1
    have hne3 : w.heap.size + 1 ≠ B := by omega
    go_region_held3 (fun w' => w'.cell? ⟨B, 0, none⟩ = some (.string q) ∧ w'.cell? ⟨w.heap.size, 0, none⟩ = some (.string x.path) ∧ w'.cell? ⟨w.heap.size, 1, none⟩ = some (.bool x.dir) ∧ w'.cell? ⟨w.heap.size, 2, none⟩ = some (.int .i64 x.quota) ∧ w'.cell? ⟨w.heap.size, 3, none⟩ = some (.slice ax x.blocks.length cx) ∧ w'.cell? ⟨w.heap.size, 4, none⟩ = some (.int .i64 x.writer)) (go_keep) (fail)
    go_wp2_with (fail)
    have hr := heap_setCell_same _ _ 4 _ _ (.int .i64 x.writer) (heap_setCell_same _ _ 3 _ _ (.slice ax x.blocks.length cx) (heap_setCell_same _ _ 2 _ _ (.int .i64 x.quota) (heap_setCell_same _ _ 1 _ _ (.bool x.dir) (heap_setCell_same _ _ 0 _ _ (.string x.path) N3'.out))))
    refine bodyPost_ret (results_cell_tmp rfl _ _ (w.heap.size + 1) _ _ _ rfl hr Tryz.underlying35 rfl (by kernel_rfl)) rfl ?_
    rw [E1.out, E2.out, E3.out, Bool.or_false]
    have hB9 := ((((hB3.setCell (p := ⟨w.heap.size + 1, 0, none⟩) (by simp) (.string x.path)).setCell (p := ⟨w.heap.size + 1, 1, none⟩) (by simp) (.bool x.dir)).setCell (p := ⟨w.heap.size + 1, 2, none⟩) (by simp) (.int .i64 x.quota)).setCell (p := ⟨w.heap.size + 1, 3, none⟩) (by simp) (.slice ax x.blocks.length cx)).setCell (p := ⟨w.heap.size + 1, 4, none⟩) (by simp) (.int .i64 x.writer)
    exact ⟨rfl, (Upd.of_below hB9 _).drew, (hB9.block _ lC).trans HC.out⟩
  · have e1 : mvN (bs p) (bs q) x = { x with path := mk (moveS (bs x.path) (bs p) (bs q)) } := by rw [mvN, hu]; rfl
    have e2 : mvK (bs p) (bs q) x = true := by rw [mvK, hu]; rfl
    have e3 : mvBad (bs p) (bs q) x = decide (moveE (bs x.path) (bs p) (bs q) ≠ 0) := by rw [mvBad, hu]; rfl
    have hmv : Calls Tryz.prog 145 #[.string x.path, .string p, .string q] w3 fun e w' => e = .returned (.tuple #[.string (mk (moveS (bs x.path) (bs p) (bs q))), .int .i64 (moveE (bs x.path) (bs p) (bs q))]) ∧ Below w3.heap.size w3 w' := HMv.out w3 hB3
    generalize mk (moveS (bs x.path) (bs p) (bs q)) = np at *
    generalize moveE (bs x.path) (bs p) (bs q) = E at *
    have E1 := Lib.hid e1; have E2 := Lib.hid e2; have E3 := Lib.hid e3
    clear e1 e2 e3 hu
    go_wp2_with (fail)
    refine hmv.mono ?_
    rintro e w4 ⟨rfl, hb4⟩
    clear hmv
    have hB4 := hB3.trans (hb4.mono hB3.size)
    have hB24 := hb3.trans (hb4.mono hb3.size)
    clear k0 k1 k2 k3 k4 y0 y1 y2 y3 y4 fn f0 f1 f2 f3 f4 N3' ha3 hq3
    obtain ⟨⟨k0, k1, k2, k3, k4⟩, ⟨y0, y1, y2, y3, y4⟩, fn, fz, N3⟩ := HS.out w4 hB24
    have f0 := fz 0; have f1 := fz 1; have f2 := fz 2; have f3 := fz 3; have f4 := fz 4; have f5 := fn 0
    obtain ⟨c5, f6⟩ := HkC.out w4 hB4
    have N3' := Lib.hid N3; clear N3 fz fn
    have hne1 : ¬ C = w.heap.size := by omega
    have hne2 : ¬ w.heap.size = C := by omega
    have hne3 : ¬ C = w.heap.size + 1 := by omega
    have hne4 : ¬ w.heap.size + 1 = C := by omega
    have hC4 := (hB4.block _ lC).trans HC.out
    have hend : ∀ u : Bool, ((((((((w4.setCell ⟨C, 0, none⟩ (.bool u)).setCell ⟨w.heap.size, 0, none⟩ (.string np)).setCell ⟨w.heap.size + 1, 0, none⟩ (.string np)).setCell ⟨w.heap.size + 1, 1, none⟩ (.bool x.dir)).setCell ⟨w.heap.size + 1, 2, none⟩ (.int .i64 x.quota)).setCell ⟨w.heap.size + 1, 3, none⟩ (.slice ax x.blocks.length cx)).setCell ⟨w.heap.size + 1, 4, none⟩ (.int .i64 x.writer))).heap[w.heap.size + 1]? = some (.cells #[.string np, .bool x.dir, .int .i64 x.quota, .slice ax x.blocks.length cx, .int .i64 x.writer] 35 (0, 0)) ∧ Upd (fun i => i = C) w ((((((((w4.setCell ⟨C, 0, none⟩ (.bool u)).setCell ⟨w.heap.size, 0, none⟩ (.string np)).setCell ⟨w.heap.size + 1, 0, none⟩ (.string np)).setCell ⟨w.heap.size + 1, 1, none⟩ (.bool x.dir)).setCell ⟨w.heap.size + 1, 2, none⟩ (.int .i64 x.quota)).setCell ⟨w.heap.size + 1, 3, none⟩ (.slice ax x.blocks.length cx)).setCell ⟨w.heap.size + 1, 4, none⟩ (.int .i64 x.writer))) ∧ ((((((((w4.setCell ⟨C, 0, none⟩ (.bool u)).setCell ⟨w.heap.size, 0, none⟩ (.string np)).setCell ⟨w.heap.size + 1, 0, none⟩ (.string np)).setCell ⟨w.heap.size + 1, 1, none⟩ (.bool x.dir)).setCell ⟨w.heap.size + 1, 2, none⟩ (.int .i64 x.quota)).setCell ⟨w.heap.size + 1, 3, none⟩ (.slice ax x.blocks.length cx)).setCell ⟨w.heap.size + 1, 4, none⟩ (.int .i64 x.writer))).heap[C]? = some (.cells #[.bool u] 4 (0, 0)) := fun u => by
      refine ⟨?_, ?_, ?_⟩
      · exact heap_setCell_same _ _ 4 _ _ (.int .i64 x.writer) (heap_setCell_same _ _ 3 _ _ (.slice ax x.blocks.length cx) (heap_setCell_same _ _ 2 _ _ (.int .i64 x.quota) (heap_setCell_same _ _ 1 _ _ (.bool x.dir) (heap_setCell_same _ _ 0 _ _ (.string np) ((heap_setCell_other _ ⟨w.heap.size, 0, none⟩ _ (.string np) (show w.heap.size + 1 ≠ w.heap.size by omega)).trans ((heap_setCell_other w4 ⟨C, 0, none⟩ _ (.bool u) hne4).trans N3'.out))))))
      · exact ((((((((Upd.of_below hB4 (fun i => i = C)).setCell (p := ⟨C, 0, none⟩) (.inl rfl) _).setCell (.inr (Nat.le_refl _)) _).setCell (.inr (Nat.le_succ _)) _).setCell (.inr (Nat.le_succ _)) _).setCell (.inr (Nat.le_succ _)) _).setCell (.inr (Nat.le_succ _)) _).setCell (.inr (Nat.le_succ _)) _)
      · have h7 := heap_setCell_same _ _ 0 _ _ (.bool u) hC4
        have ot : ∀ (W : World) (j : Nat) (z : Value), (W.setCell ⟨w.heap.size + 1, j, none⟩ z).heap[C]? = W.heap[C]? := fun W j z => heap_setCell_other W _ _ z hne3
        rw [ot, ot, ot, ot, ot, heap_setCell_other _ ⟨w.heap.size, 0, none⟩ _ (.string np) hne1]
        exact h7
    have Hend := Lib.hid hend; clear hend hC4
    cases g
    · go_wp2_with (fail)
      obtain ⟨r1, r2, r3⟩ := Hend.out (E != 0)
      refine bodyPost_ret (results_cell_tmp rfl _ _ (w.heap.size + 1) _ _ _ rfl r1 Tryz.underlying35 rfl (by kernel_rfl)) rfl ?_
      rw [E1.out, E2.out, E3.out]
      refine ⟨rfl, r2, r3.trans ?_⟩
      rw [Bool.false_or]
      by_cases h0 : E = 0 <;> simp [h0]
    · go_wp2_with (fail)
      obtain ⟨r1, r2, r3⟩ := Hend.out true
      refine bodyPost_ret (results_cell_tmp rfl _ _ (w.heap.size + 1) _ _ _ rfl r1 Tryz.underlying35 rfl (by kernel_rfl)) rfl ?_
      rw [E1.out, E2.out, E3.out]
      exact ⟨rfl, r2, r3⟩
end Go.Proofs.YtdfckkadmgmcaaaGreatDoor.Tree

/- Trees: tree.Move, walked. -/
namespace Go.Proofs.YtdfckkadmgmcaaaGreatDoor.Tree
open Go.RowKit
open Path (Bs bs mk bs_mk mk_bs tl_bs splitE splitL MaxC parD parE parN underL under_calls moveE moveS move_calls)
set_option linter.unusedSimpArgs false
set_option linter.unusedVariables false

def clash (l : List Nd) (b : Bs) (x : Nd) : Bool := match l.find? fun y => bs y.path == b with
  | none => false
  | some y => x.dir || y.dir
/-- What Move tells. -/
def mvE (l : List Nd) (a b : Bs) : Int := if rightT l = true ∧ splitE a = 0 ∧ splitE b = 0 ∧ a ≠ [47] ∧ b ≠ [47] ∧ underL a b = false then
    (match l.find? fun x => bs x.path == a with
      | none => 5
      | some x => if dirE l b ≠ 0 then dirE l b else if clash l b x = true then 6 else if l.any (mvBad a b) = true then 4 else 0)
  else 1
def mvD (l : List Nd) (a b : Bs) : List Nd := (l.filter (mvK a b)).map (mvN a b)
def sortd (l : List Nd) : List Nd := l.foldl (fun o x => ins x o) []
def mvL (l : List Nd) (a b : Bs) : List Nd := (sortd (mvD l a b)).map pur
theorem foldl_ins : ∀ (l o : List Nd), Sorted o → Sorted (l.foldl (fun o x => ins x o) o) ∧ (l.foldl (fun o x => ins x o) o).Perm (o ++ l)
  | [], o, h => ⟨h, by simp⟩
  | x :: t, o, h => by
    have h2 := foldl_ins t (ins x o) (ins_sorted h)
    refine ⟨h2.1, h2.2.trans ?_⟩
    exact ((ins_perm x o).append_right t).trans List.perm_middle.symm
theorem sortd_sorted (l : List Nd) : Sorted (sortd l) := (foldl_ins l [] List.Pairwise.nil).1
theorem sortd_perm (l : List Nd) : (sortd l).Perm l := by
  have h := (foldl_ins l [] List.Pairwise.nil).2
  rwa [List.nil_append] at h
theorem moved_split {p a b : Bs} (hu : underL a p = true) (hE : moveE p a b = 0) : splitE b = 0 ∧ splitE (moveS p a b) = 0 ∧ splitL (moveS p a b) = splitL b ++ (splitL p).drop (splitL a).length := by
  have hok : Path.moveOk p a b = true := by
    rw [moveE] at hE
    by_cases h : Path.moveOk p a b = true
    · exact h
    · rw [if_neg h] at hE; cases hE
  rw [moveE, if_pos hok] at hE
  have hb : splitE b = 0 := by simp only [Path.moveOk, Bool.and_eq_true, decide_eq_true_eq] at hok; exact hok.2
  rw [moveS, if_pos hok, Path.joinS, if_pos hE]
  exact ⟨hb, Path.join_ok hE⟩
theorem mvE_zero {l : List Nd} {a b : Bs} (h : mvE l a b = 0) : rightT l = true ∧ splitE a = 0 ∧ splitE b = 0 ∧ a ≠ [47] ∧ b ≠ [47] ∧ underL a b = false ∧ ∃ x, l.find? (fun x => bs x.path == a) = some x ∧ dirE l b = 0 ∧ clash l b x = false ∧ l.any (mvBad a b) = false := by
  rw [mvE] at h
  split at h
  · rename_i hc
    split at h
    · cases h
    · rename_i x hx
      refine ⟨hc.1, hc.2.1, hc.2.2.1, hc.2.2.2.1, hc.2.2.2.2.1, hc.2.2.2.2.2, x, hx, ?_⟩
      by_cases h1 : dirE l b = 0
      · rw [if_neg (by simpa using h1)] at h
        cases h2 : clash l b x
        · rw [h2, if_neg (by simp)] at h
          cases h3 : l.any (mvBad a b)
          · exact ⟨h1, rfl, rfl⟩
          · rw [h3, if_pos rfl] at h; cases h
        · rw [h2, if_pos rfl] at h; cases h
      · rw [if_pos h1] at h; exact absurd h h1
  · cases h
/-- What is moved, where nothing is in the way, has no path twice. -/
theorem mv_nodup {l : List Nd} {a b : Bs} (h : mvE l a b = 0) : ((mvD l a b).map fun x => bs x.path).Nodup := by
  obtain ⟨hr, ha, hb, _, _, _, x0, _, _, hcl, hbad⟩ := mvE_zero h
  have hE : ∀ x ∈ l, underL a (bs x.path) = true → moveE (bs x.path) a b = 0 := fun x hx hu => by
    have := List.any_eq_false.1 hbad x hx
    rw [mvBad, hu] at this
    simpa using this
  rw [mvD, List.map_map]
  refine List.pairwise_map.2 ?_
  refine List.Pairwise.imp_of_mem (R := fun x y => ltB (bs x.path) (bs y.path) = true) (fun {x y} hx hy hlt e => ?_) ((right_rises hr).filter _)
  obtain ⟨hxl, hxk⟩ := List.mem_filter.1 hx
  obtain ⟨hyl, hyk⟩ := List.mem_filter.1 hy
  have mixed : ∀ x ∈ l, ∀ y ∈ l, underL a (bs x.path) = true → underL a (bs y.path) = false → mvK a b y = true → bs (mvN a b x).path ≠ bs (mvN a b y).path := fun x hx y hy hu hv hk e => by
    rw [mvN, if_pos hu, mvN, if_neg (by rw [hv]; simp)] at e
    obtain ⟨_, h1, h2⟩ := moved_split hu (hE x hx hu)
    rw [bs_mk] at e
    have hyb : bs y.path ≠ b := by rw [mvK, hv] at hk; simpa using hk
    have hub : underL b (bs y.path) = true := Path.under_iff.2 ⟨hb, by rw [← e]; exact h1, by rw [← e, h2]; exact List.prefix_append _ _⟩
    obtain ⟨z, hz, hzp, hzd⟩ := up_in hr _ y hy rfl b hub
    have hf : l.find? (fun y => bs y.path == b) = some z := by
      obtain ⟨i, hi, rfl⟩ := List.mem_iff_getElem.1 hz
      have := find_at (right_rises hr) (List.getElem?_eq_getElem hi)
      rwa [hzp] at this
    rw [clash, hf] at hcl
    simp [hzd (Ne.symm hyb)] at hcl
  show False
  simp only [Function.comp] at e
  cases hux : underL a (bs x.path) <;> cases huy : underL a (bs y.path)
  · rw [mvN, if_neg (by rw [hux]; simp), mvN, if_neg (by rw [huy]; simp)] at e
    exact lt_ne hlt e
  · exact mixed y hyl x hxl huy hux hxk e.symm
  · exact mixed x hxl y hyl hux huy hyk e
  · rw [mvN, if_pos hux, mvN, if_pos huy, bs_mk, bs_mk] at e
    obtain ⟨_, _, h2⟩ := moved_split hux (hE x hxl hux)
    obtain ⟨_, _, h3⟩ := moved_split huy (hE y hyl huy)
    rw [e, h3] at h2
    have h4 := List.append_cancel_left h2
    obtain ⟨_, hx1, hx2⟩ := Path.under_iff.1 hux
    obtain ⟨_, hy1, hy2⟩ := Path.under_iff.1 huy
    obtain ⟨s, hs⟩ := hx2
    obtain ⟨t, ht⟩ := hy2
    rw [← hs, ← ht, List.drop_left, List.drop_left] at h4
    exact lt_ne hlt (Path.split_inj hx1 hy1 (by rw [← hs, ← ht, h4]))
theorem mv_rises {l : List Nd} {a b : Bs} (h : mvE l a b = 0) : Rises (mvL l a b) := by
  refine List.pairwise_map.2 ((sorted_rises (sortd_sorted _) ?_).imp fun {a b} h => h)
  exact (((sortd_perm _).map fun x => bs x.path).nodup_iff).2 (mv_nodup h)
theorem any_take {l : List Nd} {f : Nd → Bool} {k : Nat} {x : Nd} (hx : l[k]? = some x) : ((l.take k).any f || f x) = (l.take (k + 1)).any f := by
  rw [List.take_add_one, hx, List.any_append]; simp
theorem mv_choice (w : World) (A B C : Nat) (p q : ByteArray) (l : List Nd) (hl : ∀ x ∈ l, ∃ ax cx, x.bv = .slice ax x.blocks.length cx) (hA : w.heap[A]? = some (.cells #[.string p] 9 (0, 0))) (hB : w.heap[B]? = some (.cells #[.string q] 9 (0, 0))) (hC : C < w.heap.size) (hAC : A ≠ C) (hBC : B ≠ C) (hM : ∀ W, Upd (fun i => i = C) w W → MaxC W) :
    Choice w (fun i => i = C) 144 #[.pointer (some ⟨A, 0, none⟩), .pointer (some ⟨B, 0, none⟩), .pointer (some ⟨C, 0, none⟩)] l (mvN (bs p) (bs q)) (mvK (bs p) (bs q)) (fun k W => W.heap[C]? = some (.cells #[.bool ((l.take k).any (mvBad (bs p) (bs q)))] 4 (0, 0))) where
  calls W hW k x hx hJ := by
    refine (mv1_calls W A B C p q _ x (hl x (List.mem_of_getElem? hx)) (hW.block_eq hA hAC) (hW.block_eq hB hBC) hJ hAC hBC (hM W hW)).mono ?_
    rintro e w' ⟨he, hb, hc⟩
    refine ⟨he, hb, ?_⟩
    rw [any_take hx] at hc
    exact hc
  keep W W' k hJ hW := (hW C rfl).trans hJ
  bl x _ := by rw [mvN]; split <;> rfl
  old i h := by rw [h]; exact hC
  enters := enters Tryz.func144 (by rfl) (by rfl)
end Go.Proofs.YtdfckkadmgmcaaaGreatDoor.Tree

/- Trees: tree.Move, walked. -/
namespace Go.Proofs.YtdfckkadmgmcaaaGreatDoor.Tree
open Go.RowKit
open Path (Bs bs mk bs_mk mk_bs tl_bs splitE splitL MaxC parD parE parN underL under_calls moveE moveS move_calls)
set_option linter.unusedSimpArgs false
set_option linter.unusedVariables false

/-- The last part: nothing is in the way. -/
theorem mv_some (w w5 : World) (A B : Nat) (v : Value) (l : List Nd) (p q : ByteArray) (h : RdN w v l) (hM : MaxC w) (hB5 : Below w.heap.size w w5) (hA : (w5.alloc (.cells #[.bool false] 4 (0, 0))).heap[A]? = some (.cells #[.string p] 9 (0, 0))) (hB : (w5.alloc (.cells #[.bool false] 4 (0, 0))).heap[B]? = some (.cells #[.string q] 9 (0, 0))) (hAC : A < w5.heap.size) (hBC : B < w5.heap.size)
    (hr : rightT l = true) (hp : bs p ≠ [47]) (hq : bs q ≠ [47]) :
    Calls Tryz.prog 137 #[v, .func (.func 144) #[] #[.pointer (some ⟨A, 0, none⟩), .pointer (some ⟨B, 0, none⟩), .pointer (some ⟨w5.heap.size, 0, none⟩)]] (w5.alloc (.cells #[.bool false] 4 (0, 0))) fun e w' =>
      (∃ v' s, e = .returned v' ∧ OwnX w w' v' s ∧ (mvE l (bs p) (bs q) = 0 → s.map pur = mvL l (bs p) (bs q))) ∧ Below w.heap.size w w' ∧ w'.cell? ⟨w5.heap.size, 0, none⟩ = some (.bool (l.any (mvBad (bs p) (bs q)))) := by
  have hsz := hB5.size
  have hb6 : Below w.heap.size w (w5.alloc (.cells #[.bool false] 4 (0, 0))) := hB5.alloc hsz _
  have hF : ∀ i, i = w5.heap.size → w.heap.size ≤ i := fun i h => by omega
  have hso := some_calls w (w5.alloc (.cells #[.bool false] 4 (0, 0))) (fun i => i = w5.heap.size) 144 #[.pointer (some ⟨A, 0, none⟩), .pointer (some ⟨B, 0, none⟩), .pointer (some ⟨w5.heap.size, 0, none⟩)] v l (mvN (bs p) (bs q)) (mvK (bs p) (bs q)) _
    (mv_choice _ A B w5.heap.size p q l (fun x hx => bv_slice (h.bl x hx)) hA hB (by simp) (by omega) (by omega) (fun W hW => hM.below (hb6.trans (hW.toBelow hF hb6.size)))) h hb6 hF (by have := right_len hr; omega) (fun x hx => by have := right_blocks hr hx; omega) ?_ (heap_alloc_new w5 _)
  · refine hso.mono ?_
    rintro e w' ⟨⟨v', s, rfl, hO, hP, hS⟩, hU, hJ⟩
    rw [List.take_length] at hJ
    refine ⟨⟨v', s, rfl, hO.up hb6.size, fun hE => ?_⟩, hb6.trans (hU.toBelow hF hb6.size), cell_of_blk hJ⟩
    refine perm_rises (hP.trans ?_) hS (mv_rises hE)
    rw [preS, List.take_length]
    exact ((sortd_perm _).symm.map pur)
  · obtain ⟨x, t, hl, hx, _⟩ := right_head hr
    exact ⟨x, by rw [hl]; exact List.mem_cons_self .., by
      rw [mvK, hx, under_root hp]
      simpa using Ne.symm hq⟩

set_option maxRecDepth 4000 in
set_option maxHeartbeats 16000000 in
theorem move_callsT (w : World) (v : Value) (l : List Nd) (p q : ByteArray) (h : RdN w v l) (hn : l.length ≤ 8796093022208) (hM : MaxC w) :
    Calls Tryz.prog 99 #[v, .string p, .string q] w (ResX w (mvE l (bs p) (bs q)) (mvL l (bs p) (bs q))) := by
  have hb0 : Below w.heap.size w ((w.alloc (.cells #[.string p] 9 (0, 0))).alloc (.cells #[.string q] 9 (0, 0))) := ((Below.refl _ _).alloc (Nat.le_refl _) _).alloc (by simp) _
  have hsz0 : ((w.alloc (.cells #[.string p] 9 (0, 0))).alloc (.cells #[.string q] 9 (0, 0))).heap.size = w.heap.size + 2 := by simp
  have n0 : ((w.alloc (.cells #[.string p] 9 (0, 0))).alloc (.cells #[.string q] 9 (0, 0))).heap[w.heap.size]? = some (.cells #[.string p] 9 (0, 0)) := (heap_alloc_old _ _ (by simp)).trans (heap_alloc_new _ _)
  have n1 : ((w.alloc (.cells #[.string p] 9 (0, 0))).alloc (.cells #[.string q] 9 (0, 0))).heap[w.heap.size + 1]? = some (.cells #[.string q] 9 (0, 0)) := by have := heap_alloc_new (w.alloc (.cells #[.string p] 9 (0, 0))) (.cells #[.string q] 9 (0, 0)); simpa using this
  obtain ⟨ao, cap, rfl, _, _, hcell⟩ := rd_cellsN h.rd
  generalize hw0 : (w.alloc (.cells #[.string p] 9 (0, 0))).alloc (.cells #[.string q] 9 (0, 0)) = w0 at *
  have h1 := right_calls w0 _ l (h.below hb0) hn (hM.below hb0)
  have h2 : ∀ r W, Below w0.heap.size w0 W → _ := fun r W hW => good_calls W r ((hM.below hb0).below hW)
  have hat := fun r W (hW : Below w0.heap.size w0 W) hs => at_calls W _ l r ((h.below hb0).below hW) hs hn
  have hdr := fun W (hW : Below w0.heap.size w0 W) hs => dir_calls W _ l q ((h.below hb0).below hW) hs hn ((hM.below hb0).below hW)
  have hun := fun W (hW : Below w0.heap.size w0 W) => under_calls W p q ((hM.below hb0).below hW)
  have hcl : ∀ W, Below w0.heap.size w0 W → _ := fun W hW => hcell W (hb0.trans (hW.mono hb0.size))
  have hri := fun h => right_rises (l := l) h
  have hfi := fun r => has_find r l
  have hcs : ∀ W, Below w0.heap.size w0 W → W.cell? ⟨w.heap.size, 0, none⟩ = some (.string p) ∧ W.cell? ⟨w.heap.size + 1, 0, none⟩ = some (.string q) := fun W hW => ⟨cell_of_blk ((hW.block _ (by omega)).trans n0), cell_of_blk ((hW.block _ (by omega)).trans n1)⟩
  have hsl : ∀ r : ByteArray, (r.toList == [47]) = (bs r == [47]) := fun r => by rw [tl_bs]
  have Hcs := Lib.hid hcs; have H2 := Lib.hid h2; have Hat := Lib.hid hat; have Hdr := Lib.hid hdr; have Hfi := Lib.hid hfi; have Hh := Lib.hid h; have HM := Lib.hid hM; have Hun := Lib.hid hun; have Hri := Lib.hid hri; have Hcl := Lib.hid hcl; have Hsl := Lib.hid hsl; have N0 := Lib.hid n0; have N1 := Lib.hid n1
  clear hcs h2 hat hfi h hM hcell hri hdr hun hcl hsl n0 n1
  go_enter Tryz.func99, Tryz.ntmps99
  go_wp2_with (fail)
  refine h1.mono ?_
  rintro e w1 ⟨rfl, hb1⟩
  clear h1
  have ⟨a1, b1⟩ := Hcs.out w1 hb1
  have hB1w : Below w.heap.size w w1 := hb0.trans (hb1.mono hb0.size)
  cases hr : rightT l
  · have hno : ¬ (rightT l = true ∧ splitE (bs p) = 0 ∧ splitE (bs q) = 0 ∧ bs p ≠ [47] ∧ bs q ≠ [47] ∧ underL (bs p) (bs q) = false) := fun h => by rw [hr] at h; cases h.1
    clear hr
    (have hE : mvE l (bs p) (bs q) = 1 := by rw [mvE, if_neg hno]); go_wp2_with (fail); go_ret2; rw [hE]
    exact ResX.no (E := 1) (by decide) hB1w
  have h2 := H2.out p w1 hb1
  go_wp2_with (fail)
  refine h2.mono ?_
  rintro e w2 ⟨rfl, hb2⟩
  have hB2 := hb1.trans (hb2.mono hb1.size)
  have hB2w : Below w.heap.size w w2 := hb0.trans (hB2.mono hb0.size)
  clear h2 a1 b1
  have ⟨a1, b1⟩ := Hcs.out w2 hB2
  by_cases hs : splitE (bs p) = 0
  rotate_left
  · rw [decide_eq_false hs]
    have hno : ¬ (rightT l = true ∧ splitE (bs p) = 0 ∧ splitE (bs q) = 0 ∧ bs p ≠ [47] ∧ bs q ≠ [47] ∧ underL (bs p) (bs q) = false) := fun h => hs h.2.1
    clear hr hs
    (have hE : mvE l (bs p) (bs q) = 1 := by rw [mvE, if_neg hno]); go_wp2_with (fail); go_ret2; rw [hE]
    exact ResX.no (E := 1) (by decide) hB2w
  rw [decide_eq_true hs]
  have h2 := H2.out q w2 hB2
  go_wp2_with (fail)
  refine h2.mono ?_
  rintro e w3 ⟨rfl, hb3⟩
  have hB3 := hB2.trans (hb3.mono hB2.size)
  have hB3w : Below w.heap.size w w3 := hb0.trans (hB3.mono hb0.size)
  clear h2 a1 b1
  have ⟨a1, b1⟩ := Hcs.out w3 hB3
  by_cases hq : splitE (bs q) = 0
  rotate_left
  · rw [decide_eq_false hq]
    have hno : ¬ (rightT l = true ∧ splitE (bs p) = 0 ∧ splitE (bs q) = 0 ∧ bs p ≠ [47] ∧ bs q ≠ [47] ∧ underL (bs p) (bs q) = false) := fun h => hq h.2.2.1
    clear hr hs hq
    (have hE : mvE l (bs p) (bs q) = 1 := by rw [mvE, if_neg hno]); go_wp2_with (fail); go_ret2; rw [hE]
    exact ResX.no (E := 1) (by decide) hB3w
  rw [decide_eq_true hq]
  cases hpe : (p.toList == [47])
  rotate_left
  · have hno : ¬ (rightT l = true ∧ splitE (bs p) = 0 ∧ splitE (bs q) = 0 ∧ bs p ≠ [47] ∧ bs q ≠ [47] ∧ underL (bs p) (bs q) = false) := fun h => h.2.2.2.1 (by rw [Hsl.out] at hpe; simpa using hpe)
    clear hr hs hq
    (have hE : mvE l (bs p) (bs q) = 1 := by rw [mvE, if_neg hno]); go_wp2_with (fail); go_ret2; rw [hE]
    exact ResX.no (E := 1) (by decide) hB3w
  have hp : bs p ≠ [47] := fun e => by rw [Hsl.out, e] at hpe; simp at hpe
  cases hqe : (q.toList == [47])
  rotate_left
  · have hno : ¬ (rightT l = true ∧ splitE (bs p) = 0 ∧ splitE (bs q) = 0 ∧ bs p ≠ [47] ∧ bs q ≠ [47] ∧ underL (bs p) (bs q) = false) := fun h => h.2.2.2.2.1 (by rw [Hsl.out] at hqe; simpa using hqe)
    clear hr hs hq hp
    (have hE : mvE l (bs p) (bs q) = 1 := by rw [mvE, if_neg hno]); go_wp2_with (fail); go_ret2; rw [hE]
    exact ResX.no (E := 1) (by decide) hB3w
  have hqn : bs q ≠ [47] := fun e => by rw [Hsl.out, e] at hqe; simp at hqe
  have h2 := Hun.out w3 hB3
  have Hr := Lib.hid hr; have Hp := Lib.hid hp; have Hq := Lib.hid hqn; have Hs := Lib.hid hs; have Hsq := Lib.hid hq
  clear hr hp hqn hs hq
  go_wp2_with (fail)
  refine h2.mono ?_
  rintro e w4 ⟨rfl, hb4⟩
  have hB4 := hB3.trans (hb4.mono hB3.size)
  have hB4w : Below w.heap.size w w4 := hb0.trans (hB4.mono hb0.size)
  clear h2 a1 b1
  have ⟨a1, b1⟩ := Hcs.out w4 hB4
  cases hu : underL (bs p) (bs q)
  rotate_left
  · have hno : ¬ (rightT l = true ∧ splitE (bs p) = 0 ∧ splitE (bs q) = 0 ∧ bs p ≠ [47] ∧ bs q ≠ [47] ∧ underL (bs p) (bs q) = false) := fun h => by rw [hu] at h; cases h.2.2.2.2.2
    clear hu
    (have hE : mvE l (bs p) (bs q) = 1 := by rw [mvE, if_neg hno]); go_wp2_with (fail); go_ret2; rw [hE]
    exact ResX.no (E := 1) (by decide) hB4w
  have hE : mvE l (bs p) (bs q) = match l.find? fun x => bs x.path == bs p with
      | none => 5
      | some x => if dirE l (bs q) ≠ 0 then dirE l (bs q) else if clash l (bs q) x = true then 6 else if l.any (mvBad (bs p) (bs q)) = true then 4 else 0 := by
    rw [mvE, if_pos ⟨Hr.out, Hs.out, Hsq.out, Hp.out, Hq.out, hu⟩]
    try (cases l.find? fun x => bs x.path == bs p <;> rfl)
  have ha := Hat.out p w4 hB4 (Hri.out Hr.out)
  rw [Hfi.out] at ha
  have HE := Lib.hid hE; have Hu := Lib.hid hu
  clear hE hu
  go_wp2_with (fail)
  refine ha.mono ?_
  rintro e w5 ⟨rfl, hb5⟩
  have hB5 := hB4.trans (hb5.mono hB4.size)
  have hB5w : Below w.heap.size w w5 := hb0.trans (hB5.mono hb0.size)
  clear ha a1 b1
  have ⟨a1, b1⟩ := Hcs.out w5 hB5
  cases hf : l.find? fun x => bs x.path == bs p with
  | none =>
    have hE : mvE l (bs p) (bs q) = 5 := by rw [HE.out, hf]
    simp only [Option.isSome_none]
    clear hf
    go_wp2_with (fail)
    go_ret2
    rw [hE]
    exact ResX.no (E := 5) (by decide) hB5w
  | some x =>
    simp only [Option.isSome_some]
    have hx := idx_has (key := p) (x := x) (right_rises Hr.out) hf
    have hxl := (List.getElem?_eq_some_iff.1 hx).1
    generalize idxN p l = i at *
    have hd := Hdr.out w5 hB5 (Hri.out Hr.out)
    have Hf := Lib.hid hf; have Hx := Lib.hid hx
    clear hf hx
    go_wp2_with (fail)
    refine hd.mono ?_
    rintro e w6 ⟨rfl, hb6⟩
    have hB6 := hB5.trans (hb6.mono hB5.size)
    have hB6w : Below w.heap.size w w6 := hb0.trans (hB6.mono hb0.size)
    clear hd a1 b1
    have ⟨a1, b1⟩ := Hcs.out w6 hB6
    by_cases hde : dirE l (bs q) = 0
    rotate_left
    · have hdb : (dirE l (bs q) == 0) = false := by simpa using hde
      have hE : mvE l (bs p) (bs q) = dirE l (bs q) := by rw [HE.out, Hf.out]; exact if_pos hde
      go_wp2_with (fail)
      go_ret2
      rw [hE]
      exact ResX.no hde hB6w
    rw [hde]
    have ha := Hat.out q w6 hB6 (Hri.out Hr.out)
    rw [Hfi.out] at ha
    have Hde := Lib.hid hde; clear hde
    go_wp2_with (fail)
    refine ha.mono ?_
    rintro e w7 ⟨rfl, hb7⟩
    have hB7 := hB6.trans (hb7.mono hB6.size)
    have hB7w : Below w.heap.size w w7 := hb0.trans (hB7.mono hb0.size)
    clear ha a1 b1
    have ⟨a1, b1⟩ := Hcs.out w7 hB7
    obtain ⟨b, off, rfl, hbb, c0, c1, c2, c3, c4⟩ := Hcl.out w7 hB7 i x Hx.out
    have hA7 : (w7.alloc (.cells #[.bool false] 4 (0, 0))).heap[w.heap.size]? = some (.cells #[.string p] 9 (0, 0)) := (heap_alloc_old _ _ (by have := hB7.size; omega)).trans ((hB7.block _ (by omega)).trans N0.out)
    have hB7' : (w7.alloc (.cells #[.bool false] 4 (0, 0))).heap[w.heap.size + 1]? = some (.cells #[.string q] 9 (0, 0)) := (heap_alloc_old _ _ (by have := hB7.size; omega)).trans ((hB7.block _ (by omega)).trans N1.out)
    have hso := mv_some w w7 w.heap.size (w.heap.size + 1) _ l p q Hh.out HM.out hB7w hA7 hB7' (by have := hB7.size; omega) (by have := hB7.size; omega) Hr.out Hp.out Hq.out
    have Hso := Lib.hid hso
    clear hA7 hB7' hso
    have hE : mvE l (bs p) (bs q) = if clash l (bs q) x = true then 6 else if l.any (mvBad (bs p) (bs q)) = true then 4 else 0 := by
      rw [HE.out, Hf.out]; exact if_neg (by simpa using Hde.out)
    have HE2 := Lib.hid hE
    clear hE
    cases hg : l.find? fun x => bs x.path == bs q with
    | none =>
      simp only [Option.isSome_none]
      have hcl : clash l (bs q) x = false := by rw [clash, hg]
      have Hcl' := Lib.hid hcl
      clear hg hcl
      (go_wp2_with (fail)); (refine Hso.out.mono ?_); (rintro e w8 ⟨⟨v', s, rfl, hO, hs⟩, hb8, hc8⟩); (cases hbad : l.any (mvBad (bs p) (bs q))); (rw [hbad] at hc8; go_wp2_with (fail); go_ret2; (have h0 : mvE l (bs p) (bs q) = 0 := by rw [HE2.out, Hcl'.out, hbad]; rfl); (rw [h0]; exact ⟨⟨v', s, rfl, hO, by rw [if_pos rfl]; exact hs h0⟩, hb8⟩)); (rw [hbad] at hc8; go_wp2_with (fail); go_ret2; (have h0 : mvE l (bs p) (bs q) = 4 := by rw [HE2.out, Hcl'.out, hbad]; rfl); (rw [h0]; exact ResX.no (E := 4) (by decide) hb8))
    | some y =>
      simp only [Option.isSome_some]
      have hy := idx_has (key := q) (x := y) (right_rises Hr.out) hg
      have hyl := (List.getElem?_eq_some_iff.1 hy).1
      generalize idxN q l = k at *
      have hcl : clash l (bs q) x = (x.dir || y.dir) := by rw [clash, hg]
      cases hxd : x.dir
      rotate_left
      · rw [hxd] at c1 hcl
        have Hcl' := Lib.hid hcl
        clear hg hcl hy hxd
        go_wp2_with (fail)
        go_ret2
        rw [HE2.out, Hcl'.out]
        exact ResX.no (E := 6) (by decide) hB7w
      obtain ⟨b', off', he, _, d0, d1, d2, d3, d4⟩ := Hcl.out w7 hB7 k y hy
      simp only [Option.some.injEq, Addr.mk.injEq, and_true] at he
      obtain ⟨rfl, rfl⟩ := he
      rw [hxd] at c1 hcl
      cases hyd : y.dir
      · rw [hyd] at d1 hcl
        have Hcl' := Lib.hid hcl
        clear hg hcl hy hyd hxd
        (go_wp2_with (fail)); (refine Hso.out.mono ?_); (rintro e w8 ⟨⟨v', s, rfl, hO, hs⟩, hb8, hc8⟩); (cases hbad : l.any (mvBad (bs p) (bs q))); (rw [hbad] at hc8; go_wp2_with (fail); go_ret2; (have h0 : mvE l (bs p) (bs q) = 0 := by rw [HE2.out, Hcl'.out, hbad]; rfl); (rw [h0]; exact ⟨⟨v', s, rfl, hO, by rw [if_pos rfl]; exact hs h0⟩, hb8⟩)); (rw [hbad] at hc8; go_wp2_with (fail); go_ret2; (have h0 : mvE l (bs p) (bs q) = 4 := by rw [HE2.out, Hcl'.out, hbad]; rfl); (rw [h0]; exact ResX.no (E := 4) (by decide) hb8))
      · rw [hyd] at d1 hcl
        have Hcl' := Lib.hid hcl
        clear hg hcl hy hyd hxd
        go_wp2_with (fail)
        go_ret2
        rw [HE2.out, Hcl'.out]
        exact ResX.no (E := 6) (by decide) hB7w
end Go.Proofs.YtdfckkadmgmcaaaGreatDoor.Tree

/- Trees (chapter 7): two lists that are the same. -/
namespace Go.Proofs.YtdfckkadmgmcaaaGreatDoor.Tree
open Go.RowKit
open Path (Bs bs mk bs_mk mk_bs tl_bs splitE splitL MaxC rd_cellsS)
set_option linter.unusedSimpArgs false
set_option linter.unusedVariables false

theorem pur_facts {x y : Nd} (h : pur x = pur y) : x.path = y.path ∧ x.dir = y.dir ∧ x.quota = y.quota ∧ x.blocks = y.blocks ∧ x.writer = y.writer := by
  cases x; cases y
  simp only [pur, Nd.mk.injEq] at h
  exact ⟨h.1, h.2.1, h.2.2.1, h.2.2.2.1, h.2.2.2.2.2⟩
end Go.Proofs.YtdfckkadmgmcaaaGreatDoor.Tree
