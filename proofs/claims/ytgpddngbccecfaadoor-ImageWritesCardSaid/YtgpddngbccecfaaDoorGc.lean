/- Parts of the proof, one behind the other: Tq, Tr, Ts, Tt, Tu, Tv, Tw, Tx, Ty, Tz. -/
import Derived.Test.YtgpddngbccecfaaDoorGb
import Derived.Test.YtgpddngbccecfaaDoorGa
import Derived.Lib.SliceRun
import Derived.Laws.Externs
import Derived.Test.YtgpddngbccecfaaDoorSj
import Derived.Sort.OwnSorted
import Derived.Deep.RegionHeld3
import Derived.Lib.QuietBelow
/- Trees: slices.Clone of blocks; rows of nodes whose blocks are the call's own, too. -/
namespace Go.Proofs.YtgpddngbccecfaaDoor.Tree
open Go.RowKit
open Path (Bs bs mk bs_mk mk_bs tl_bs splitE splitL MaxC parD parE parN)
set_option linter.unusedSimpArgs false
set_option linter.unusedVariables false

theorem infoB : (Tryd.prog.info? 53).map (fun i => (i.zero, i.size, i.bytes)) = some (some (.agg #[.int .i64 0, .int .i64 0, .int .i64 0]), 3, 24) := by kernel_rfl
theorem etB : ET Tryd.prog 49 53 3 24 := ET.of Tryd.underlying49 infoB rfl (by decide) (by simp [Value.cells, Value.oneCell'])
def flatB (l : List Bl) : List Value := l.flatMap encB
theorem flatB_len (l : List Bl) : (flatB l).length = l.length * 3 := flat_length encB 3 encB_len l
theorem flatB_one (l : List Bl) : ∀ u ∈ flatB l, u.oneCell' = true := by
  intro u hu
  simp only [flatB, List.mem_flatMap] at hu
  obtain ⟨x, _, hx⟩ := hu
  simp only [encB, List.mem_cons, List.not_mem_nil, or_false] at hx
  rcases hx with rfl | rfl | rfl <;> rfl
theorem rd_flatB {w : World} {v : Value} {l : List Bl} (h : Rd w 3 encB v l) {ad : Addr} {cap : Nat} (hv : v = .slice (some ad) l.length cap) : ∀ W, Below w.heap.size w W → ∀ j u, (flatB l)[j]? = some u → W.cell? (ad.add j) = some u := by
  intro W hW j u hu
  obtain ⟨ao, cap', hv', _, _, hcell⟩ := h
  rw [hv] at hv'
  simp only [Value.slice.injEq, true_and] at hv'
  obtain ⟨rfl, rfl⟩ := hv'
  have hj := (List.getElem?_eq_some_iff.1 hu).1
  rw [flatB_len] at hj
  have hi : j / 3 < l.length := Nat.div_lt_of_lt_mul (by omega)
  have hx : l[j / 3]? = some l[j / 3] := by simp [hi]
  obtain ⟨b, off, e, hlt, hcl⟩ := hcell _ _ hx
  simp only [Option.some.injEq] at e
  subst e
  have e2 : j = j / 3 * 3 + j % 3 := by omega
  have := flat_get encB 3 encB_len l (j / 3) (j % 3) _ hx (Nat.mod_lt _ (by omega))
  rw [← e2] at this
  have h3 := hcl (j % 3) u (by rw [← this]; exact hu)
  rw [Addr.add_lit, hW.cell (p := ⟨b, off + j, none⟩) hlt, ← h3]
  congr 2
  omega
/-- A slice of blocks of the call's own. -/
structure OwnB (w w' : World) (v : Value) (q : List Bl) : Prop where
  own : w'.ownsRow 0 53 3 v q.length (flatB q)
  new : ∀ g, v.ownBlock = some g → w.heap.size ≤ g
theorem OwnB.nil (w w' : World) : OwnB w w' (.slice none 0 0) [] := ⟨World.ownsRow_nil _ _ _ _, fun g h => by simp [Value.ownBlock] at h⟩
theorem OwnB.rd {w w' : World} {v : Value} {q : List Bl} (h : OwnB w w' v q) : Rd w' 3 encB v q := Rd.of_own encB_len h.own
theorem OwnB.below {w w' w'' : World} {v : Value} {q : List Bl} (h : OwnB w w' v q) (hb : Below w'.heap.size w' w'') : OwnB w w'' v q :=
  ⟨below_ownsRow hb h.own (fun g hg => own_ltN h.own g hg), h.new⟩
theorem OwnB.up {w w1 w' : World} {v : Value} {q : List Bl} (h : OwnB w1 w' v q) (hw : w.heap.size ≤ w1.heap.size) : OwnB w w' v q := ⟨h.own, fun g hg => Nat.le_trans hw (h.new g hg)⟩
theorem OwnB.grown {w w' w'' : World} {v : Value} {q : List Bl} {row : Option Nat} (h : OwnB w w' v q) (hg : w'.grownBy w'' row) (hne : v.ownBlock = none ∨ v.ownBlock ≠ row) : OwnB w w'' v q := ⟨h.own.kept hg hne, h.new⟩
/-- A node without the place of its blocks. -/
def pur (x : Nd) : Nd := { x with bv := .slice none 0 0 }
/-- A slice of nodes of the call's own; their blocks are, too. -/
structure OwnX (w w' : World) (v : Value) (q : List Nd) : Prop where
  own : w'.ownsRow 0 51 5 v q.length (flatN q)
  new : ∀ g, v.ownBlock = some g → w.heap.size ≤ g
  bl : ∀ x ∈ q, OwnB w w' x.bv x.blocks
theorem OwnX.toN {w w' : World} {v : Value} {q : List Nd} (h : OwnX w w' v q) : OwnN w w' v q := ⟨h.own, h.new, fun x hx => (h.bl x hx).rd⟩
theorem OwnX.rd {w w' : World} {v : Value} {q : List Nd} (h : OwnX w w' v q) : RdN w' v q := h.toN.rd
theorem OwnX.nil (w w' : World) : OwnX w w' (.slice none 0 0) [] := ⟨World.ownsRow_nil _ _ _ _, fun g h => by simp [Value.ownBlock] at h, fun x hx => by cases hx⟩
theorem OwnX.below {w w' w'' : World} {v : Value} {q : List Nd} (h : OwnX w w' v q) (hb : Below w'.heap.size w' w'') : OwnX w w'' v q :=
  ⟨below_ownsRow hb h.own (fun g hg => own_ltN h.own g hg), h.new, fun x hx => (h.bl x hx).below hb⟩
theorem OwnX.up {w w1 w' : World} {v : Value} {q : List Nd} (h : OwnX w1 w' v q) (hw : w.heap.size ≤ w1.heap.size) : OwnX w w' v q := ⟨h.own, fun g hg => Nat.le_trans hw (h.new g hg), fun x hx => (h.bl x hx).up hw⟩
end Go.Proofs.YtgpddngbccecfaaDoor.Tree

/- Trees: slices.SortFunc of the nodes, by their paths. -/
namespace Go.Proofs.YtgpddngbccecfaaDoor.Tree
open Go.RowKit
open Path (Bs bs mk bs_mk mk_bs tl_bs splitE splitL MaxC parD parE parN)
open Go.Sort (SWO PermIn SortedIn HoldsK putRowK flatK grow putCells Holds putRow)
set_option linter.unusedSimpArgs false
set_option linter.unusedVariables false

abbrev Nc := { x : Nd // x.bv.oneCell' = true }
instance : Inhabited Nc := ⟨⟨⟨⟨#[]⟩, false, 0, [], .slice none 0 0, 0⟩, rfl⟩⟩
def encC (x : Nc) : List Value := encN x.1
def cfC (x y : Nc) : Int := Lib.compareBytes (bs x.1.path) (bs y.1.path)
theorem lt_cf (x y : Nc) : ltOf cfC x y = ltB (bs x.1.path) (bs y.1.path) := by
  rw [ltOf, cfC, cmp_lt]
  cases h : ltB (bs x.1.path) (bs y.1.path)
  · rw [if_neg (by decide)]
    split <;> rfl
  · rfl
theorem swo_c : SWO (ltOf cfC) where
  irrefl x := by rw [lt_cf, lt_irr]
  trans x y z h1 h2 := by
    rw [lt_cf] at *
    exact lt_trans _ _ _ h1 h2
  ntrans x y z h1 h2 := by
    rw [lt_cf] at *
    cases h : ltB (bs x.1.path) (bs z.1.path)
    · rfl
    · rcases lt_tri (bs x.1.path) (bs y.1.path) with h3 | h3 | h3
      · rw [h3] at h1; cases h1
      · rw [h3, h2] at h; cases h
      · rw [lt_trans _ _ _ h3 h] at h2; cases h2
/-! The row of cells. -/
theorem get!_flat (q : List Nc) (t : Nat) (ht : t < q.length * 5) : (flatK encC 5 q.toArray)[t]? = (flatN (q.map (·.1)))[t]? := by
  have hi : t / 5 < q.length := Nat.div_lt_of_lt_mul (by omega)
  have h1 := Go.Sort.get_flatK encC 5 q.toArray t (by simpa using ht)
  have hs : t < (flatK encC 5 q.toArray).size := by simpa using ht
  rw [getElem!_pos _ t hs] at h1
  rw [Array.getElem?_eq_getElem hs, h1]
  have hx : (q.map (·.1))[t / 5]? = some q[t / 5].1 := by simp [hi]
  have h2 := flat_get encN 5 encN_len (q.map (·.1)) (t / 5) (t % 5) _ hx (Nat.mod_lt _ (by decide))
  have e2 : t / 5 * 5 + t % 5 = t := by omega
  rw [e2] at h2
  rw [flatN, h2]
  have h3 : (q.toArray)[t / 5]! = q[t / 5] := by simp [hi]
  rw [h3]
  have hl : t % 5 < (encC q[t / 5]).length := by rw [encC, encN_len]; exact Nat.mod_lt _ (by decide)
  rw [getElem!_pos (encC q[t / 5]) (t % 5) hl]
  exact (List.getElem?_eq_getElem hl).symm
theorem flat_list (q : List Nc) : (flatK encC 5 q.toArray).toList = flatN (q.map (·.1)) := by
  apply List.ext_getElem?
  intro t
  rw [Array.getElem?_toList]
  by_cases ht : t < q.length * 5
  · exact get!_flat q t ht
  · rw [List.getElem?_eq_none (by rw [flatN_len]; simpa using ht), Array.getElem?_eq_none (by simpa using ht)]
theorem holds_own {w : World} {g : Nat} {cur : Array Value} {e : TypeId} {q : List Nc} (hb : w.heap[g]? = some (.cells cur e (0, 0))) (ht : cur.toList.take (q.length * 5) = flatN (q.map (·.1))) : HoldsK encC 5 w g 0 q.toArray := by
  intro j hj
  have hj' : j < q.length * 5 := by simpa using hj
  refine ⟨?_, by simp [World.frozen?, hb]⟩
  have h1 : (cur.toList.take (q.length * 5))[j]? = (flatK encC 5 q.toArray)[j]? := by rw [ht, get!_flat q j hj']
  rw [List.getElem?_take_of_lt hj'] at h1
  simp only [World.cell?, hb, Nat.zero_add]
  simp only [Option.isSome_none, Bool.false_eq_true, if_false]
  rw [← Array.getElem?_toList, h1, Array.getElem?_eq_getElem hj, getElem!_pos _ j hj]
  rfl
theorem heap_sortedK {w : World} {g n : Nat} {os : Array Obj} {cur : Array Value} {e : TypeId} {fr : Nat × Nat} (d : Array Nc) (hb : w.heap[g]? = some (.cells cur e fr)) :
    (sortWorldK encC 5 w g 0 n d os).heap[g]? = some (.cells (putCells id 0 (flatK encC 5 d) cur) e fr) := by
  have hg : g < w.heap.size := (Array.getElem?_eq_some_iff.1 hb).1
  rw [sortWorldK, putRowK, Go.Sort.heap_grow_old _ _ (by simpa using hg)]
  simp [putRow, Go.Sort.mapBlock, Go.Sort.ahead, Array.getElem?_modify, hb, Go.Sort.onCells]
theorem grownBy_sortedK {w : World} {g n : Nat} {os : Array Obj} (d : Array Nc) : w.grownBy (sortWorldK encC 5 w g 0 n d os) (some g) := by
  unfold sortWorldK putRowK
  refine ⟨rfl, rfl, rfl, by simp, fun k hk hne => ?_⟩
  rw [Go.Sort.heap_grow_old _ _ (by simpa using hk)]
  have : g ≠ k := fun e => hne (by rw [e])
  simp [putRow, Go.Sort.mapBlock, Go.Sort.ahead, Array.getElem?_modify, this]
theorem take_putK (cur : Array Value) (q : List Nc) (h : q.length * 5 ≤ cur.size) : (putCells id 0 (flatK encC 5 q.toArray) cur).toList.take (q.length * 5) = flatN (q.map (·.1)) := by
  rw [← flat_list]
  apply List.ext_getElem?
  intro j
  by_cases hj : j < q.length * 5
  · rw [List.getElem?_take_of_lt hj, Array.getElem?_toList, Array.getElem?_toList]
    have hs : j < (flatK encC 5 q.toArray).size := by simpa using hj
    rw [Array.getElem?_eq_getElem hs]
    simp [putCells, hj, show j < cur.size by omega]
  · rw [List.getElem?_take_eq_none (by omega), List.getElem?_eq_none (by simp; omega)]

/-- The paths don't fall. -/
def Sorted (l : List Nd) : Prop := l.Pairwise fun x y => ltB (bs y.path) (bs x.path) = false
theorem lift_c : ∀ (q : List Nd), (∀ x ∈ q, x.bv.oneCell' = true) → ∃ c : List Nc, c.map (·.1) = q
  | [], _ => ⟨[], rfl⟩
  | x :: t, h => by
    obtain ⟨c, hc⟩ := lift_c t fun y hy => h y (List.mem_cons_of_mem _ hy)
    exact ⟨⟨x, h x (List.mem_cons_self ..)⟩ :: c, by simp [hc]⟩
end Go.Proofs.YtgpddngbccecfaaDoor.Tree

/- Trees: tree.some, whatever the choice. -/
namespace Go.Proofs.YtgpddngbccecfaaDoor.Tree
open Go.RowKit
open Path (Bs bs mk bs_mk mk_bs tl_bs splitE splitL MaxC parD parE parN)
set_option linter.unusedSimpArgs false
set_option linter.unusedVariables false

theorem OwnB.upd {F : Nat → Prop} {w w' w'' : World} {v : Value} {q : List Bl} (h : OwnB w w' v q) (hu : Upd F w' w'') (hF : ∀ i, F i → i < w.heap.size) : OwnB w w'' v q :=
  ⟨hu.ownsRow h.own fun g hg hf => by have := hF g hf; have := h.new g hg; omega, h.new⟩
theorem OwnX.upd {F : Nat → Prop} {w w' w'' : World} {v : Value} {q : List Nd} (h : OwnX w w' v q) (hu : Upd F w' w'') (hF : ∀ i, F i → i < w.heap.size) : OwnX w w'' v q :=
  ⟨hu.ownsRow h.own fun g hg hf => by have := hF g hf; have := h.new g hg; omega, h.new, fun x hx => (h.bl x hx).upd hu hF⟩
theorem OwnX.alloc {w w' : World} {v : Value} {q : List Nd} (h : OwnX w w' v q) (o : Obj) : OwnX w (w'.alloc o) v q := h.below ((Below.refl _ _).alloc (Nat.le_refl _) _)
theorem OwnX.len {w w' : World} {v : Value} {q : List Nd} (h : OwnX w w' v q) {p : List Nd} (e : q.map pur = p) : q.length = p.length := by rw [← e, List.length_map]
theorem apart {w w' : World} {v u : Value} {n : Nat} {xs : List Value} {q : List Bl} (h : w'.ownsRow 0 51 5 v n xs) (hb : OwnB w w' u q) : u.ownBlock = none ∨ u.ownBlock ≠ v.ownBlock := by
  rcases hb.own with ⟨_, ⟨e, _⟩ | ⟨g', cap', cur', e, _, hg', _⟩⟩
  · exact .inl (by rw [e]; rfl)
  rcases h with ⟨_, ⟨e1, _⟩ | ⟨g, cap, cur, e1, _, hg, _⟩⟩
  · refine .inr ?_
    rw [e, e1]
    intro e2
    simp [Value.ownBlock] at e2
  · refine .inr ?_
    rw [e, e1]
    intro e2
    have : g' = g := by simpa [Value.ownBlock] using e2
    subst this
    rw [hg] at hg'
    have := congrArg (fun o => match o with | some (Obj.cells _ t _) => t | _ => 0) hg'
    simp at this
/-- What 'keep' does to the k-th of the nodes, among worlds that only F's blocks tell apart. -/
structure Choice (w : World) (F : Nat → Prop) (n : Nat) (cb : Array Value) (l : List Nd) (f : Nd → Nd) (b : Nd → Bool) (J : Nat → World → Prop) : Prop where
  calls : ∀ W, Upd F w W → ∀ k x, l[k]? = some x → J k W → Calls Tryd.prog n (#[.agg #[.string x.path, .bool x.dir, .int .i64 x.quota, x.bv, .int .i64 x.writer]] ++ cb) W fun e w' =>
    e = .returned (.tuple #[.agg #[.string (f x).path, .bool (f x).dir, .int .i64 (f x).quota, x.bv, .int .i64 (f x).writer], .bool (b x)]) ∧ Upd F W w' ∧ J (k + 1) w'
  keep : ∀ W W' k, J k W → (∀ i, F i → W'.heap[i]? = W.heap[i]?) → J k W'
  bl : ∀ x ∈ l, (f x).blocks = x.blocks
  old : ∀ i, F i → i < w.heap.size
  enters : ∀ args W, (callFunc n args).run Tryd.prog W = .ok (.enter n args) W
def preS (l : List Nd) (f : Nd → Nd) (b : Nd → Bool) (k : Nat) : List Nd := (((l.take k).filter b).map f).map pur
theorem preS_no {l : List Nd} {f : Nd → Nd} {b : Nd → Bool} {k : Nat} {x : Nd} (hx : l[k]? = some x) (h : b x = false) : preS l f b (k + 1) = preS l f b k := by
  rw [preS, preS, List.take_add_one, hx]; simp [h]
theorem preS_yes {l : List Nd} {f : Nd → Nd} {b : Nd → Bool} {k : Nat} {x : Nd} (hx : l[k]? = some x) (h : b x = true) : preS l f b (k + 1) = preS l f b k ++ [pur (f x)] := by
  rw [preS, preS, List.take_add_one, hx]; simp [h]
theorem preS_len (l : List Nd) (f : Nd → Nd) (b : Nd → Bool) (k : Nat) : (preS l f b k).length ≤ k := by
  simp only [preS, List.length_map]
  exact Nat.le_trans (List.length_filter_le _ _) (by rw [List.length_take]; omega)

end Go.Proofs.YtgpddngbccecfaaDoor.Tree

/- Trees: tree.Remove. -/
namespace Go.Proofs.YtgpddngbccecfaaDoor.Tree
open Go.RowKit
open Path (Bs bs mk bs_mk mk_bs tl_bs splitE splitL MaxC parD parE parN underL)
set_option linter.unusedSimpArgs false
set_option linter.unusedVariables false

/-- What Remove tells. -/
def rmE (l : List Nd) (p : Bs) : Int := if rightT l = true ∧ splitE p = 0 ∧ p ≠ [47] then (if (l.find? fun x => bs x.path == p).isSome = true then 0 else 5) else 1
def rmL (l : List Nd) (p : Bs) : List Nd := (l.filter fun x => !underL p (bs x.path)).map pur
def ResX (w : World) (E : Int) (L : List Nd) (e : Ending) (w' : World) : Prop := (∃ v' q, e = .returned (.tuple #[v', .int .i64 E]) ∧ OwnX w w' v' q ∧ q.map pur = (if E = 0 then L else [])) ∧ Below w.heap.size w w'
theorem ResX.no {w w' : World} {E : Int} {L : List Nd} (hE : E ≠ 0) (hb : Below w.heap.size w w') : ResX w E L (.returned (.tuple #[.slice none 0 0, .int .i64 E])) w' :=
  ⟨⟨_, [], rfl, OwnX.nil _ _, by rw [if_neg hE]; rfl⟩, hb⟩
theorem perm_rises {q p : List Nd} (h : (q.map pur).Perm p) (hs : Sorted q) (hr : Rises p) : q.map pur = p := by
  have hs' : (q.map pur).Pairwise fun x y => ltB (bs y.path) (bs x.path) = false := List.pairwise_map.2 (hs.imp fun {a b} h => h)
  refine List.Perm.eq_of_pairwise (le := fun x y => ltB (bs y.path) (bs x.path) = false) (fun x y hx hy h1 h2 => ?_) hs' (hr.imp fun {a b} hab => lt_asym hab) h
  have hx' := h.mem_iff.1 hx
  obtain ⟨i, hi, rfl⟩ := List.mem_iff_getElem.1 hx'
  obtain ⟨j, hj, rfl⟩ := List.mem_iff_getElem.1 hy
  have e : bs p[i].path = bs p[j].path := by
    rcases lt_tri (bs p[i].path) (bs p[j].path) with h3 | h3 | h3
    · rw [h2] at h3; cases h3
    · exact h3
    · rw [h1] at h3; cases h3
  have := rises_inj hr (i := i) (j := j) (List.getElem?_eq_getElem hi) (List.getElem?_eq_getElem hj) e
  subst this; rfl
theorem rises_filter {l : List Nd} (h : Rises l) (b : Nd → Bool) : Rises ((l.filter b).map pur) := List.pairwise_map.2 ((h.filter b).imp fun {a b} h => h)
theorem right_len {l : List Nd} (h : rightT l = true) : l.length ≤ 60 := by
  simp only [rightT, rightA, Bool.and_eq_true] at h
  have h1 := h.1.1
  cases l with
  | nil => simp
  | cons x t =>
    simp only [headOk, Bool.and_eq_true] at h1
    simpa using h1.1.1
theorem fits_blocks {x : Nd} (h : fitsN x = true) : x.blocks.length ≤ 8 := by
  simp only [fitsN, Bool.and_eq_true] at h
  have := h.2
  split at this
  · simp at this; simp [this]
  · simp at this; omega
theorem right_fits {l : List Nd} (h : rightT l = true) {x : Nd} (hx : x ∈ l) : fitsN x = true := by
  obtain ⟨i, hi, rfl⟩ := List.mem_iff_getElem.1 hx
  simp only [rightT, rightA, Bool.and_eq_true] at h
  exact (rightA_at (l := l) (fun j hj => List.all_eq_true.1 h.1.2 j (List.mem_range.2 hj)) (List.getElem?_eq_getElem hi)).1
theorem right_blocks {l : List Nd} (h : rightT l = true) {x : Nd} (hx : x ∈ l) : x.blocks.length ≤ 8 := fits_blocks (right_fits h hx)
theorem under_root {p : Bs} (hp : p ≠ [47]) : underL p [47] = false := by
  cases h : underL p [47]
  · rfl
  · obtain ⟨h1, h2, h3⟩ := Path.under_iff.1 h
    have h4 : splitL [47] = [] := by decide
    rw [h4, List.prefix_nil] at h3
    have := (Path.split_ok h1).2
    rw [h3, Path.join_nil] at this
    exact absurd this.symm hp
theorem rem_keeps {l : List Nd} (h : rightT l = true) {p : Bs} (hp : p ≠ [47]) : ∃ x ∈ l, (!underL p (bs x.path)) = true := by
  obtain ⟨x, t, rfl, hx, _⟩ := right_head h
  exact ⟨x, List.mem_cons_self .., by rw [hx, under_root hp]; rfl⟩
theorem right_nonempty {l : List Nd} (h : rightT l = true) : ∃ x ∈ l, bs x.path = [47] := by
  obtain ⟨x, t, rfl, hx, _⟩ := right_head h
  exact ⟨x, List.mem_cons_self .., hx⟩

end Go.Proofs.YtgpddngbccecfaaDoor.Tree

/- Trees: tree.Add. -/
namespace Go.Proofs.YtgpddngbccecfaaDoor
open Go.RowKit
set_option linter.unusedSimpArgs false
set_option linter.unusedVariables false
section
variable {P : Program} {t e : TypeId} {size bytes : Nat} {w : World} {o : Oper} {a : Act} {ops : Array Oper} {rest : List Oper} {Q : Exit → Act → World → Prop} {K : Act → World → Prop} {E : Prop}
/-- append of one element to a slice that is full, whoever owns it: a new row. -/
theorem ET.wp_full (T : ET P t e size bytes) {b : Addr} {n : Nat} {xs : List Value} (hlo : xs.length = n * size) (holds : ∀ j u, xs[j]? = some u → w.cell? (b.add j) = some u) (hone : ∀ u ∈ xs, u.oneCell' = true)
    {B : Nat} {cs : Array Value} (hB : w.heap[B]? = some (.cells cs e (0, 0))) (hcs : cs.size = size) (h1 : ∀ u ∈ cs.toList, u.oneCell' = true) (hb : (n + 1) * bytes ≤ 140737488355328) (h63 : n + 1 ≤ maxLen)
    (s x : Operand) (ho : o.op = .call { callee := .builtin .append, args := #[s, x], argTypes := #[t, t] }) (hs : a.eval s = .slice (some b) n n) (hx : a.eval x = .slice (some ⟨B, 0, none⟩) 1 1)
    (h : ∀ cap w', w'.ownsRow 0 e size (.slice (some ⟨w.heap.size, 0, none⟩) (n + 1) cap) (n + 1) (xs ++ cs.toList) → Below w.heap.size w w' → K (a.put o.dst (.slice (some ⟨w.heap.size, 0, none⟩) (n + 1) cap)) w') : o.wp P a w K Q := by
  obtain ⟨i, z, hi, hz0, hz1, hz2, hz3, _⟩ := T.inf
  subst hz1 hz2
  have hcap := grownCap_ge w (n + 1) n e
  have hcl : cs.toList.length = 1 * i.size := by simpa using hcs
  have hrun := run_append_grow (P := P) (w := w) t o.type e i z T.und hi hz0 b n n xs hlo holds ⟨B, 0, none⟩ 1 1 cs.toList hcl (World.news_of_block hB) (by omega) (by unfold maxLen at h63; omega) (growslice_fits_succ (Nat.le_trans (Nat.mul_le_mul_right _ (Nat.le_succ n)) hb) (Nat.le_trans (show i.bytes ≤ (n + 1) * i.bytes from Nat.le_mul_of_pos_left _ (Nat.succ_pos n)) (by omega)))
  unfold Oper.wp
  simp [execOp, ho, resolve, invoke, builtin, hs, hx, hrun, Result.andThen]
  refine h (grownCap w (n + 1) n e) _ ?_ ?_
  · refine ⟨by rw [List.length_append, hlo, hcl, Nat.add_mul], .inr ⟨w.heap.size, grownCap w (n + 1) n e, _, rfl, Nat.zero_le _, heap_alloc_new w.drew _, hcap, grownCap_le_maxLen _ _ _ _ h63, ?_, ?_⟩⟩
    · simp [hlo, hcs, zeroCells_len, hz3]
      rw [show grownCap w (n + 1) n e = n + 1 + (grownCap w (n + 1) n e - (n + 1)) by omega, Nat.add_sub_cancel_left, Nat.add_mul, Nat.add_mul, Nat.one_mul, Nat.add_assoc]
    · have hl : (xs ++ cs.toList).length = (n + 1) * i.size := by rw [List.length_append, hlo, hcl, Nat.add_mul]
      simp only [Array.toList_append, List.append_assoc]
      rw [← List.append_assoc, List.take_append_of_le_length (by omega), List.take_of_length_le (by omega)]
  · exact Below.alloc (a := w) (w := w.drew) ⟨rfl, rfl, rfl, Nat.le_refl _, fun _ _ => rfl⟩ (Nat.le_refl _) _
theorem ET.step_full (T : ET P t e size bytes) {b : Addr} {n : Nat} {xs : List Value} (hlo : xs.length = n * size) (holds : ∀ j u, xs[j]? = some u → w.cell? (b.add j) = some u) (hone : ∀ u ∈ xs, u.oneCell' = true)
    {B : Nat} {cs : Array Value} (hB : w.heap[B]? = some (.cells cs e (0, 0))) (hcs : cs.size = size) (h1 : ∀ u ∈ cs.toList, u.oneCell' = true) (hb : (n + 1) * bytes ≤ 140737488355328) (h63 : n + 1 ≤ maxLen) (hgd : o.guard = none)
    (s x : Operand) (ho : o.op = .call { callee := .builtin .append, args := #[s, x], argTypes := #[t, t] }) (hs : a.eval s = .slice (some b) n n) (hx : a.eval x = .slice (some ⟨B, 0, none⟩) 1 1)
    (h : ∀ cap w', w'.ownsRow 0 e size (.slice (some ⟨w.heap.size, 0, none⟩) (n + 1) cap) (n + 1) (xs ++ cs.toList) → Below w.heap.size w w' → K (a.put o.dst (.slice (some ⟨w.heap.size, 0, none⟩) (n + 1) cap)) w') :
    if Region.wanted o (yielded ops a.tmps) = true then Oper.wp P o a w K Q else E := by
  rw [if_pos (by simp [Region.wanted, hgd])]
  exact T.wp_full hlo holds hone hB hcs h1 hb h63 s x ho hs hx h
end
end Go.Proofs.YtgpddngbccecfaaDoor
namespace Go.Proofs.YtgpddngbccecfaaDoor.Tree
open Go.RowKit
open Path (Bs bs mk bs_mk mk_bs tl_bs splitE splitL MaxC parD parE parN underL)
set_option linter.unusedSimpArgs false
set_option linter.unusedVariables false

/-- A node in its place. -/
def ins (n : Nd) : List Nd → List Nd
  | [] => [n]
  | y :: t => if ltB (bs n.path) (bs y.path) = true then n :: y :: t else y :: ins n t
theorem ins_perm (n : Nd) : ∀ l : List Nd, (ins n l).Perm (n :: l)
  | [] => List.Perm.refl _
  | y :: t => by
    rw [ins]
    split
    · exact List.Perm.refl _
    · exact ((ins_perm n t).cons y).trans (List.Perm.swap n y t)
theorem ins_sorted {n : Nd} : ∀ {l : List Nd}, Sorted l → Sorted (ins n l)
  | [], _ => List.pairwise_singleton _ _
  | y :: t, h => by
    rw [ins]
    have h' := List.pairwise_cons.1 h
    split
    · rename_i hlt
      refine List.pairwise_cons.2 ⟨fun a ha => ?_, h⟩
      rcases List.mem_cons.1 ha with rfl | ha
      · exact lt_asym hlt
      · cases hx : ltB (bs a.path) (bs n.path)
        · rfl
        · have := h'.1 a ha
          rw [lt_trans _ _ _ hx hlt] at this; cases this
    · rename_i hlt
      refine List.pairwise_cons.2 ⟨fun a ha => ?_, ins_sorted h'.2⟩
      rcases List.mem_cons.1 ((ins_perm n t).mem_iff.1 ha) with rfl | ha
      · simpa using hlt
      · exact h'.1 a ha
/-- Sorted, and no path twice. -/
theorem sorted_rises {l : List Nd} (h : Sorted l) (hd : (l.map fun x => bs x.path).Nodup) : Rises l := by
  have hd' := List.pairwise_map.1 hd
  refine (h.and hd').imp fun {a b} hab => ?_
  rcases lt_tri (bs a.path) (bs b.path) with h3 | h3 | h3
  · exact h3
  · exact absurd h3 hab.2
  · rw [hab.1] at h3; cases h3
theorem rises_sorted {l : List Nd} (h : Rises l) : Sorted l := h.imp fun {a b} hab => lt_asym hab
theorem rises_nodup {l : List Nd} (h : Rises l) : (l.map fun x => bs x.path).Nodup := List.pairwise_map.2 (h.imp fun {a b} hab => lt_ne hab)
theorem rises_ins {n : Nd} {l : List Nd} (h : Rises l) (hn : ∀ y ∈ l, bs y.path ≠ bs n.path) : Rises (ins n l) := by
  refine sorted_rises (ins_sorted (rises_sorted h)) ?_
  refine (((ins_perm n l).map fun x => bs x.path).nodup_iff).2 ?_
  rw [List.map_cons, List.nodup_cons]
  refine ⟨fun hm => ?_, rises_nodup h⟩
  obtain ⟨y, hy, e⟩ := List.mem_map.1 hm
  exact hn y hy e
def addE (l : List Nd) (n : Nd) : Int := if rightT l = true ∧ fitsN n = true ∧ bs n.path ≠ [47] then (if (l.find? fun x => bs x.path == bs n.path).isSome = true then 6 else if dirE l (bs n.path) ≠ 0 then dirE l (bs n.path) else if 60 ≤ l.length then 4 else 0) else 1
def addL (l : List Nd) (n : Nd) : List Nd := (ins n l).map pur
theorem preS_all (l : List Nd) : preS l id (fun _ => true) l.length = l.map pur := by
  rw [preS, List.take_length, List.map_id, List.filter_eq_self.2 (fun _ _ => rfl)]
theorem rd_app {w w5 : World} {b : Addr} {cap0 g cap : Nat} {l : List Nd} {n : Nd} (h : RdN w (.slice (some b) l.length cap0) l) (hn : Rd w 3 encB n.bv n.blocks) (hB : Below w.heap.size w w5) (ho : w5.ownsRow 0 51 5 (.slice (some ⟨g, 0, none⟩) (l.length + 1) cap) (l.length + 1) (flatN l ++ encN n)) : RdN w5 (.slice (some ⟨g, 0, none⟩) (l.length + 1) cap) (l ++ [n]) := by
  refine ⟨Rd.of_own (base := 0) (e := 51) encN_len ?_, fun x hx => ?_⟩
  · rw [show (l ++ [n]).length = l.length + 1 by simp, show (l ++ [n]).flatMap encN = flatN l ++ encN n from flatN_snoc l n]
    exact ho
  · rcases List.mem_append.1 hx with hx | hx
    · exact (h.bl x hx).below hB (Nat.le_refl _)
    · rw [List.mem_singleton] at hx
      subst hx
      exact hn.below hB (Nat.le_refl _)
end Go.Proofs.YtgpddngbccecfaaDoor.Tree

/- Trees: tree.Add, walked. -/
namespace Go.Proofs.YtgpddngbccecfaaDoor.Tree
open Go.RowKit
open Path (Bs bs mk bs_mk mk_bs tl_bs splitE splitL MaxC parD parE parN underL)
set_option linter.unusedSimpArgs false
set_option linter.unusedVariables false

end Go.Proofs.YtgpddngbccecfaaDoor.Tree

/- Trees: what Move does to each node. -/
namespace Go.Proofs.YtgpddngbccecfaaDoor.Tree
open Go.RowKit
open Path (Bs bs mk bs_mk mk_bs tl_bs splitE splitL MaxC parD parE parN underL moveE moveS)
set_option linter.unusedSimpArgs false
set_option linter.unusedVariables false

def mvN (a b : Bs) (x : Nd) : Nd := if underL a (bs x.path) = true then { x with path := mk (moveS (bs x.path) a b) } else x
def mvK (a b : Bs) (x : Nd) : Bool := underL a (bs x.path) || !(bs x.path == b)
def mvBad (a b : Bs) (x : Nd) : Bool := underL a (bs x.path) && decide (moveE (bs x.path) a b ≠ 0)
end Go.Proofs.YtgpddngbccecfaaDoor.Tree

/- Trees: tree.Move, walked. -/
namespace Go.Proofs.YtgpddngbccecfaaDoor.Tree
open Go.RowKit
open Path (Bs bs mk bs_mk mk_bs tl_bs splitE splitL MaxC parD parE parN underL moveE moveS)
set_option linter.unusedSimpArgs false
set_option linter.unusedVariables false

def clash (l : List Nd) (b : Bs) (x : Nd) : Bool := match l.find? fun y => bs y.path == b with
  | none => false
  | some y => x.dir || y.dir
/-- What Move tells. -/
def mvE (l : List Nd) (a b : Bs) : Int := if rightT l = true ∧ splitE a = 0 ∧ splitE b = 0 ∧ a ≠ [47] ∧ b ≠ [47] ∧ underL a b = false then
    (match l.find? fun x => bs x.path == a with
      | none => 5
      | some x => if dirE l b ≠ 0 then dirE l b else if clash l b x = true then 6 else if l.any (mvBad a b) = true then 4 else 0)
  else 1
def mvD (l : List Nd) (a b : Bs) : List Nd := (l.filter (mvK a b)).map (mvN a b)
def sortd (l : List Nd) : List Nd := l.foldl (fun o x => ins x o) []
def mvL (l : List Nd) (a b : Bs) : List Nd := (sortd (mvD l a b)).map pur
theorem foldl_ins : ∀ (l o : List Nd), Sorted o → Sorted (l.foldl (fun o x => ins x o) o) ∧ (l.foldl (fun o x => ins x o) o).Perm (o ++ l)
  | [], o, h => ⟨h, by simp⟩
  | x :: t, o, h => by
    have h2 := foldl_ins t (ins x o) (ins_sorted h)
    refine ⟨h2.1, h2.2.trans ?_⟩
    exact ((ins_perm x o).append_right t).trans List.perm_middle.symm
theorem sortd_sorted (l : List Nd) : Sorted (sortd l) := (foldl_ins l [] List.Pairwise.nil).1
theorem sortd_perm (l : List Nd) : (sortd l).Perm l := by
  have h := (foldl_ins l [] List.Pairwise.nil).2
  rwa [List.nil_append] at h
theorem moved_split {p a b : Bs} (hu : underL a p = true) (hE : moveE p a b = 0) : splitE b = 0 ∧ splitE (moveS p a b) = 0 ∧ splitL (moveS p a b) = splitL b ++ (splitL p).drop (splitL a).length := by
  have hok : Path.moveOk p a b = true := by
    rw [moveE] at hE
    by_cases h : Path.moveOk p a b = true
    · exact h
    · rw [if_neg h] at hE; cases hE
  rw [moveE, if_pos hok] at hE
  have hb : splitE b = 0 := by simp only [Path.moveOk, Bool.and_eq_true, decide_eq_true_eq] at hok; exact hok.2
  rw [moveS, if_pos hok, Path.joinS, if_pos hE]
  exact ⟨hb, Path.join_ok hE⟩
theorem mvE_zero {l : List Nd} {a b : Bs} (h : mvE l a b = 0) : rightT l = true ∧ splitE a = 0 ∧ splitE b = 0 ∧ a ≠ [47] ∧ b ≠ [47] ∧ underL a b = false ∧ ∃ x, l.find? (fun x => bs x.path == a) = some x ∧ dirE l b = 0 ∧ clash l b x = false ∧ l.any (mvBad a b) = false := by
  rw [mvE] at h
  split at h
  · rename_i hc
    split at h
    · cases h
    · rename_i x hx
      refine ⟨hc.1, hc.2.1, hc.2.2.1, hc.2.2.2.1, hc.2.2.2.2.1, hc.2.2.2.2.2, x, hx, ?_⟩
      by_cases h1 : dirE l b = 0
      · rw [if_neg (by simpa using h1)] at h
        cases h2 : clash l b x
        · rw [h2, if_neg (by simp)] at h
          cases h3 : l.any (mvBad a b)
          · exact ⟨h1, rfl, rfl⟩
          · rw [h3, if_pos rfl] at h; cases h
        · rw [h2, if_pos rfl] at h; cases h
      · rw [if_pos h1] at h; exact absurd h h1
  · cases h
/-- What is moved, where nothing is in the way, has no path twice. -/
theorem mv_nodup {l : List Nd} {a b : Bs} (h : mvE l a b = 0) : ((mvD l a b).map fun x => bs x.path).Nodup := by
  obtain ⟨hr, ha, hb, _, _, _, x0, _, _, hcl, hbad⟩ := mvE_zero h
  have hE : ∀ x ∈ l, underL a (bs x.path) = true → moveE (bs x.path) a b = 0 := fun x hx hu => by
    have := List.any_eq_false.1 hbad x hx
    rw [mvBad, hu] at this
    simpa using this
  rw [mvD, List.map_map]
  refine List.pairwise_map.2 ?_
  refine List.Pairwise.imp_of_mem (R := fun x y => ltB (bs x.path) (bs y.path) = true) (fun {x y} hx hy hlt e => ?_) ((right_rises hr).filter _)
  obtain ⟨hxl, hxk⟩ := List.mem_filter.1 hx
  obtain ⟨hyl, hyk⟩ := List.mem_filter.1 hy
  have mixed : ∀ x ∈ l, ∀ y ∈ l, underL a (bs x.path) = true → underL a (bs y.path) = false → mvK a b y = true → bs (mvN a b x).path ≠ bs (mvN a b y).path := fun x hx y hy hu hv hk e => by
    rw [mvN, if_pos hu, mvN, if_neg (by rw [hv]; simp)] at e
    obtain ⟨_, h1, h2⟩ := moved_split hu (hE x hx hu)
    rw [bs_mk] at e
    have hyb : bs y.path ≠ b := by rw [mvK, hv] at hk; simpa using hk
    have hub : underL b (bs y.path) = true := Path.under_iff.2 ⟨hb, by rw [← e]; exact h1, by rw [← e, h2]; exact List.prefix_append _ _⟩
    obtain ⟨z, hz, hzp, hzd⟩ := up_in hr _ y hy rfl b hub
    have hf : l.find? (fun y => bs y.path == b) = some z := by
      obtain ⟨i, hi, rfl⟩ := List.mem_iff_getElem.1 hz
      have := find_at (right_rises hr) (List.getElem?_eq_getElem hi)
      rwa [hzp] at this
    rw [clash, hf] at hcl
    simp [hzd (Ne.symm hyb)] at hcl
  show False
  simp only [Function.comp] at e
  cases hux : underL a (bs x.path) <;> cases huy : underL a (bs y.path)
  · rw [mvN, if_neg (by rw [hux]; simp), mvN, if_neg (by rw [huy]; simp)] at e
    exact lt_ne hlt e
  · exact mixed y hyl x hxl huy hux hxk e.symm
  · exact mixed x hxl y hyl hux huy hyk e
  · rw [mvN, if_pos hux, mvN, if_pos huy, bs_mk, bs_mk] at e
    obtain ⟨_, _, h2⟩ := moved_split hux (hE x hxl hux)
    obtain ⟨_, _, h3⟩ := moved_split huy (hE y hyl huy)
    rw [e, h3] at h2
    have h4 := List.append_cancel_left h2
    obtain ⟨_, hx1, hx2⟩ := Path.under_iff.1 hux
    obtain ⟨_, hy1, hy2⟩ := Path.under_iff.1 huy
    obtain ⟨s, hs⟩ := hx2
    obtain ⟨t, ht⟩ := hy2
    rw [← hs, ← ht, List.drop_left, List.drop_left] at h4
    exact lt_ne hlt (Path.split_inj hx1 hy1 (by rw [← hs, ← ht, h4]))
theorem mv_rises {l : List Nd} {a b : Bs} (h : mvE l a b = 0) : Rises (mvL l a b) := by
  refine List.pairwise_map.2 ((sorted_rises (sortd_sorted _) ?_).imp fun {a b} h => h)
  exact (((sortd_perm _).map fun x => bs x.path).nodup_iff).2 (mv_nodup h)
theorem any_take {l : List Nd} {f : Nd → Bool} {k : Nat} {x : Nd} (hx : l[k]? = some x) : ((l.take k).any f || f x) = (l.take (k + 1)).any f := by
  rw [List.take_add_one, hx, List.any_append]; simp
end Go.Proofs.YtgpddngbccecfaaDoor.Tree

/- Trees: tree.Move, walked. -/
namespace Go.Proofs.YtgpddngbccecfaaDoor.Tree
open Go.RowKit
open Path (Bs bs mk bs_mk mk_bs tl_bs splitE splitL MaxC parD parE parN underL moveE moveS)
set_option linter.unusedSimpArgs false
set_option linter.unusedVariables false

end Go.Proofs.YtgpddngbccecfaaDoor.Tree

/- Trees (chapter 7): two lists that are the same. -/
namespace Go.Proofs.YtgpddngbccecfaaDoor.Tree
open Go.RowKit
open Path (Bs bs mk bs_mk mk_bs tl_bs splitE splitL MaxC rd_cellsS)
set_option linter.unusedSimpArgs false
set_option linter.unusedVariables false

theorem pur_facts {x y : Nd} (h : pur x = pur y) : x.path = y.path ∧ x.dir = y.dir ∧ x.quota = y.quota ∧ x.blocks = y.blocks ∧ x.writer = y.writer := by
  cases x; cases y
  simp only [pur, Nd.mk.injEq] at h
  exact ⟨h.1, h.2.1, h.2.2.1, h.2.2.2.1, h.2.2.2.2.2⟩
end Go.Proofs.YtgpddngbccecfaaDoor.Tree
