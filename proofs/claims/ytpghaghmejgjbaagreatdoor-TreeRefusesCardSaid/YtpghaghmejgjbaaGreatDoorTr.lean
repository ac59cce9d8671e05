/- Trees: slices.SortFunc of the nodes, by their paths. -/
import Derived.Test.YtpghaghmejgjbaaGreatDoorTq
import Derived.Test.YtpghaghmejgjbaaGreatDoorSj
import Derived.Sort.OwnSorted
namespace Go.Proofs.YtpghaghmejgjbaaGreatDoor.Tree
open Go.RowKit
open Path (Bs bs mk bs_mk mk_bs tl_bs splitE splitL MaxC parD parE parN)
open Go.Sort (SWO PermIn SortedIn HoldsK putRowK flatK grow putCells Holds putRow)
set_option linter.unusedSimpArgs false
set_option linter.unusedVariables false

abbrev Nc := { x : Nd // x.bv.oneCell' = true }
instance : Inhabited Nc := ⟨⟨⟨⟨#[]⟩, false, 0, [], .slice none 0 0, 0⟩, rfl⟩⟩
def encC (x : Nc) : List Value := encN x.1
def cfC (x y : Nc) : Int := Lib.compareBytes (bs x.1.path) (bs y.1.path)
theorem lt_cf (x y : Nc) : ltOf cfC x y = ltB (bs x.1.path) (bs y.1.path) := by
  rw [ltOf, cfC, cmp_lt]
  cases h : ltB (bs x.1.path) (bs y.1.path)
  · rw [if_neg (by decide)]
    split <;> rfl
  · rfl
theorem swo_c : SWO (ltOf cfC) where
  irrefl x := by rw [lt_cf, lt_irr]
  trans x y z h1 h2 := by
    rw [lt_cf] at *
    exact lt_trans _ _ _ h1 h2
  ntrans x y z h1 h2 := by
    rw [lt_cf] at *
    cases h : ltB (bs x.1.path) (bs z.1.path)
    · rfl
    · rcases lt_tri (bs x.1.path) (bs y.1.path) with h3 | h3 | h3
      · rw [h3] at h1; cases h1
      · rw [h3, h2] at h; cases h
      · rw [lt_trans _ _ _ h3 h] at h2; cases h2
set_option maxHeartbeats 1000000 in
theorem cmp_calls (w : World) (x y : Nc) : Calls Tryz.prog 76 #[.agg (encC x).toArray, .agg (encC y).toArray] w fun e w' => e = .returned (.int .i64 (cfC x y)) ∧ ∃ q os, w' = grow (w.drewN q) os := by
  obtain ⟨x, hx⟩ := x
  obtain ⟨y, hy⟩ := y
  have hc := fun W => Tryz.strings_Compare x.path y.path W
  show Calls Tryz.prog 76 #[.agg #[.string x.path, .bool x.dir, .int .i64 x.quota, x.bv, .int .i64 x.writer], .agg #[.string y.path, .bool y.dir, .int .i64 y.quota, y.bv, .int .i64 y.writer]] w _
  go_enter Tryz.func76, Tryz.ntmps76
  go_wp2_with (fail)
  refine (hc _).mono ?_
  rintro e w1 ⟨rfl, rfl⟩
  go_wp2_with (fail)
  go_ret
  refine ⟨rfl, 0, #[.cells #[.string x.path, .bool x.dir, .int .i64 x.quota, x.bv, .int .i64 x.writer] 25 (0, 0), .cells #[.string y.path, .bool y.dir, .int .i64 y.quota, y.bv, .int .i64 y.writer] 25 (0, 0)], ?_⟩
  have h : ∀ (a b : Obj), (w.alloc a).alloc b = grow (w.drewN 0) #[a, b] := fun a b => by
    show ({ w with heap := (w.heap.push a).push b } : World) = { w with drawn := w.drawn + 0, heap := w.heap ++ #[a, b] }
    rw [show w.heap ++ #[a, b] = (w.heap.push a).push b from rfl]
    rfl
  exact h _ _

/-! The row of cells. -/
theorem get!_flat (q : List Nc) (t : Nat) (ht : t < q.length * 5) : (flatK encC 5 q.toArray)[t]? = (flatN (q.map (·.1)))[t]? := by
  have hi : t / 5 < q.length := Nat.div_lt_of_lt_mul (by omega)
  have h1 := Go.Sort.get_flatK encC 5 q.toArray t (by simpa using ht)
  have hs : t < (flatK encC 5 q.toArray).size := by simpa using ht
  rw [getElem!_pos _ t hs] at h1
  rw [Array.getElem?_eq_getElem hs, h1]
  have hx : (q.map (·.1))[t / 5]? = some q[t / 5].1 := by simp [hi]
  have h2 := flat_get encN 5 encN_len (q.map (·.1)) (t / 5) (t % 5) _ hx (Nat.mod_lt _ (by decide))
  have e2 : t / 5 * 5 + t % 5 = t := by omega
  rw [e2] at h2
  rw [flatN, h2]
  have h3 : (q.toArray)[t / 5]! = q[t / 5] := by simp [hi]
  rw [h3]
  have hl : t % 5 < (encC q[t / 5]).length := by rw [encC, encN_len]; exact Nat.mod_lt _ (by decide)
  rw [getElem!_pos (encC q[t / 5]) (t % 5) hl]
  exact (List.getElem?_eq_getElem hl).symm
theorem flat_list (q : List Nc) : (flatK encC 5 q.toArray).toList = flatN (q.map (·.1)) := by
  apply List.ext_getElem?
  intro t
  rw [Array.getElem?_toList]
  by_cases ht : t < q.length * 5
  · exact get!_flat q t ht
  · rw [List.getElem?_eq_none (by rw [flatN_len]; simpa using ht), Array.getElem?_eq_none (by simpa using ht)]
theorem holds_own {w : World} {g : Nat} {cur : Array Value} {e : TypeId} {q : List Nc} (hb : w.heap[g]? = some (.cells cur e (0, 0))) (ht : cur.toList.take (q.length * 5) = flatN (q.map (·.1))) : HoldsK encC 5 w g 0 q.toArray := by
  intro j hj
  have hj' : j < q.length * 5 := by simpa using hj
  refine ⟨?_, by simp [World.frozen?, hb]⟩
  have h1 : (cur.toList.take (q.length * 5))[j]? = (flatK encC 5 q.toArray)[j]? := by rw [ht, get!_flat q j hj']
  rw [List.getElem?_take_of_lt hj'] at h1
  simp only [World.cell?, hb, Nat.zero_add]
  simp only [Option.isSome_none, Bool.false_eq_true, if_false]
  rw [← Array.getElem?_toList, h1, Array.getElem?_eq_getElem hj, getElem!_pos _ j hj]
  rfl
theorem heap_sortedK {w : World} {g n : Nat} {os : Array Obj} {cur : Array Value} {e : TypeId} {fr : Nat × Nat} (d : Array Nc) (hb : w.heap[g]? = some (.cells cur e fr)) :
    (sortWorldK encC 5 w g 0 n d os).heap[g]? = some (.cells (putCells id 0 (flatK encC 5 d) cur) e fr) := by
  have hg : g < w.heap.size := (Array.getElem?_eq_some_iff.1 hb).1
  rw [sortWorldK, putRowK, Go.Sort.heap_grow_old _ _ (by simpa using hg)]
  simp [putRow, Go.Sort.mapBlock, Go.Sort.ahead, Array.getElem?_modify, hb, Go.Sort.onCells]
theorem grownBy_sortedK {w : World} {g n : Nat} {os : Array Obj} (d : Array Nc) : w.grownBy (sortWorldK encC 5 w g 0 n d os) (some g) := by
  unfold sortWorldK putRowK
  refine ⟨rfl, rfl, rfl, by simp, fun k hk hne => ?_⟩
  rw [Go.Sort.heap_grow_old _ _ (by simpa using hk)]
  have : g ≠ k := fun e => hne (by rw [e])
  simp [putRow, Go.Sort.mapBlock, Go.Sort.ahead, Array.getElem?_modify, this]
theorem take_putK (cur : Array Value) (q : List Nc) (h : q.length * 5 ≤ cur.size) : (putCells id 0 (flatK encC 5 q.toArray) cur).toList.take (q.length * 5) = flatN (q.map (·.1)) := by
  rw [← flat_list]
  apply List.ext_getElem?
  intro j
  by_cases hj : j < q.length * 5
  · rw [List.getElem?_take_of_lt hj, Array.getElem?_toList, Array.getElem?_toList]
    have hs : j < (flatK encC 5 q.toArray).size := by simpa using hj
    rw [Array.getElem?_eq_getElem hs]
    simp [putCells, hj, show j < cur.size by omega]
  · rw [List.getElem?_take_eq_none (by omega), List.getElem?_eq_none (by simp; omega)]

/-- The paths don't fall. -/
def Sorted (l : List Nd) : Prop := l.Pairwise fun x y => ltB (bs y.path) (bs x.path) = false
theorem lift_c : ∀ (q : List Nd), (∀ x ∈ q, x.bv.oneCell' = true) → ∃ c : List Nc, c.map (·.1) = q
  | [], _ => ⟨[], rfl⟩
  | x :: t, h => by
    obtain ⟨c, hc⟩ := lift_c t fun y hy => h y (List.mem_cons_of_mem _ hy)
    exact ⟨⟨x, h x (List.mem_cons_self ..)⟩ :: c, by simp [hc]⟩
theorem agN (w : World) : (isAgg (Tryz.sortN_ren.t 24)).run Tryz.prog w = .ok true w := Tryz.isAgg25 w
theorem zN (w : World) : (Go.sizeOf (Tryz.sortN_ren.t 24)).run Tryz.prog w = .ok 5 w := Tryz.sizeOf25 w
theorem enters_cmp (args : Array Value) (w : World) : (callFunc 76 args).run Tryz.prog w = .ok (.enter 76 args) w := enters Tryz.func76 (by rfl) (by rfl) args w
theorem sortN_calls (w w1 : World) (v : Value) (q : List Nd) (hO : OwnX w w1 v q) (hne : q ≠ []) (hn : q.length ≤ 1000000) (hb : w.heap.size ≤ w1.heap.size) :
    Calls Tryz.prog 75 #[v, .func (.func 76) #[] #[]] w1 fun e w' => e = .returned (.tuple #[]) ∧ (∃ q', q'.Perm q ∧ Sorted q' ∧ OwnX w w' v q') ∧ Below w.heap.size w1 w' := by
  have hlen : 0 < q.length := List.length_pos_iff.2 hne
  have hbl := hO.bl
  have hnew := hO.new
  obtain ⟨c, rfl⟩ := lift_c q fun x hx => by
    obtain ⟨ao, cap, hv, _⟩ := rd_cellsB (hbl x hx).rd
    rw [hv]; rfl
  rw [List.length_map] at *
  rcases hO.own with ⟨_, ⟨rfl, h0⟩ | ⟨g, cap, cur, rfl, hg0, hg, hnc, hcm, hcs, htake⟩⟩
  · rw [List.length_map] at h0; omega
  · rw [List.length_map] at *
    have hH : HoldsK encC 5 w1 g 0 c.toArray := holds_own hg htake
    have hc := AnyQ.slices_SortFunc Tryz.sortN 5 agN zN encC (fun x => encN_len _) (fun x v hv => ?_) cfC swo_c 76 #[] g 0 cap c.toArray w1 enters_cmp (fun m os dk hdk x y => cmp_calls _ x y) hH (lt_of_block hg) (by simp; omega)
    · refine hc.mono ?_
      rintro e w' ⟨rfl, d', n, os, hp, hs, rfl⟩
      have hsz : d'.size = c.length := by simpa using hp.1
      obtain ⟨c', rfl⟩ : ∃ c' : List Nc, d' = c'.toArray := ⟨d'.toList, by simp⟩
      have hl' : c'.length = c.length := by simpa using hsz
      have hperm : c'.Perm c := by
        have := hp.2.2
        simpa [hl', List.take_of_length_le] using this
      have hgr := grownBy_sortedK (w := w1) (g := g) (n := n) (os := os) c'.toArray
      refine ⟨rfl, ⟨c'.map (·.1), hperm.map _, ?_, ?_, hnew, fun x hx => ?_⟩, ?_⟩
      · refine List.pairwise_map.2 (List.pairwise_iff_getElem.2 fun i j hi hj hij => ?_)
        have := hs i j (Nat.zero_le _) hij (by simpa [hl'] using hj)
        rw [lt_cf] at this
        simpa [hi, hj] using this
      · rw [List.length_map, hl']
        refine ⟨by rw [flatN_len, List.length_map, hl'], .inr ⟨g, cap, _, rfl, hg0, heap_sortedK _ hg, hnc, hcm, by simp [putCells, hcs], ?_⟩⟩
        rw [← hl']
        exact take_putK cur c' (by rw [hl', hcs]; exact Nat.mul_le_mul_right _ hnc)
      · have hx' := (hperm.map (·.1)).mem_iff.1 hx
        refine (hbl x hx').grown hgr ?_
        rcases (hbl x hx').own with ⟨_, ⟨e, _⟩ | ⟨g', cap', cur', e, _, hg', _⟩⟩
        · exact .inl (by rw [e]; rfl)
        · refine .inr ?_
          rw [e]
          intro e2
          have : g' = g := by simpa [Value.ownBlock] using e2
          subst this
          rw [hg] at hg'
          have := congrArg (fun o => match o with | some (Obj.cells _ t _) => t | _ => 0) hg'
          simp at this
      · exact (Below.refl _ _).grown hgr hb (fun k hk => by injection hk with hk; subst hk; exact hnew _ rfl)
    · obtain ⟨x, hx⟩ := x
      simp only [encC, encN, List.mem_cons, List.not_mem_nil, or_false] at hv
      rcases hv with rfl | rfl | rfl | rfl | rfl
      · rfl
      · rfl
      · rfl
      · exact hx
      · rfl
end Go.Proofs.YtpghaghmejgjbaaGreatDoor.Tree
