/- Trees: slices.IndexFunc, ContainsFunc over nodes, whatever the choice; tree.Find. -/
import Derived.Test.YtpghaghmejgjbaaGreatDoorTf
namespace Go.Proofs.YtpghaghmejgjbaaGreatDoor.Tree
open Go.RowKit
open Path (Bs bs mk bs_mk mk_bs tl_bs splitE splitL MaxC parD parE parN)
set_option linter.unusedSimpArgs false
set_option linter.unusedVariables false

def fiN (q : Nd → Bool) (l : List Nd) : Int := match l.findIdx? q with
  | none => -1
  | some i => i
theorem fi_none {q : Nd → Bool} {l : List Nd} (h : ∀ p x, p < l.length → l[p]? = some x → q x = false) : fiN q l = -1 := by
  have : l.findIdx? q = none := by
    rw [List.findIdx?_eq_none_iff]
    intro x hx
    obtain ⟨p, hp, rfl⟩ := List.mem_iff_getElem.1 hx
    exact h p _ hp (by simp [hp])
  rw [fiN, this]
theorem fi_some {q : Nd → Bool} {l : List Nd} {k : Nat} {x : Nd} (h : ∀ p x, p < k → l[p]? = some x → q x = false) (hx : l[k]? = some x) (hq : q x = true) : fiN q l = k := by
  obtain ⟨hk, rfl⟩ := List.getElem?_eq_some_iff.1 hx
  have : l.findIdx? q = some k := by
    rw [List.findIdx?_eq_some_iff_getElem]
    refine ⟨hk, hq, fun j hj => ?_⟩
    have hjl : j < l.length := by omega
    have := h j _ hj (show l[j]? = some l[j] by simp [hjl])
    rw [this]; decide
  rw [fiN, this]
theorem fi_any (q : Nd → Bool) (l : List Nd) : (l.any q = true ∧ 0 ≤ fiN q l) ∨ (l.any q = false ∧ fiN q l = -1) := by
  rw [fiN]
  cases h : l.findIdx? q with
  | none =>
    rw [List.findIdx?_eq_none_iff] at h
    exact .inr ⟨by rw [List.any_eq_false]; intro x hx; rw [h x hx]; decide, rfl⟩
  | some i =>
    rw [List.findIdx?_eq_some_iff_getElem] at h
    obtain ⟨hi, hq, _⟩ := h
    exact .inl ⟨List.any_eq_true.2 ⟨_, List.getElem_mem hi, hq⟩, Int.natCast_nonneg _⟩

/-- A call of a function with a body enters it. -/
theorem enters {P : Program} {f : FuncId} {fn : Func} {c : Code} (hf : P.funcs[f]? = some fn) (hname : (fn.name == "runtime.NumGoroutine") = false) (hb : fn.body = some c) (args : Array Value) (w : World) :
    (callFunc f args).run P w = .ok (.enter f args) w := by
  have h1 : fn.name ≠ "runtime.NumGoroutine" := by simpa using hname
  simp [callFunc, hf, h1, hb]
/-- What a choice does to each node of the row. -/
def Picks (w : World) (n : Nat) (c : Value) (q : Nd → Bool) (l : List Nd) : Prop :=
  ∀ W, Below w.heap.size w W → ∀ x ∈ l, Calls Tryz.prog n #[.agg #[.string x.path, .bool x.dir, .int .i64 x.quota, x.bv, .int .i64 x.writer], c] W fun e w' => e = .returned (.bool (q x)) ∧ Below W.heap.size W w'

set_option maxRecDepth 4000 in
set_option maxHeartbeats 4000000 in
theorem idxn_calls (w : World) (n : Nat) (c : Value) (q : Nd → Bool) (v : Value) (l : List Nd) (eg : ∀ args W, (callFunc n args).run Tryz.prog W = .ok (.enter n args) W) (hp : Picks w n c q l) (h : Rd w 5 encN v l) (hn : l.length ≤ 8796093022208) :
    Calls Tryz.prog 46 #[v, .func (.func n) #[] #[c]] w fun e w' => e = .returned (.int .i64 (fiN q l)) ∧ Below w.heap.size w w' := by
  obtain ⟨ao, cap, rfl, _, _, hcell⟩ := rd_cellsN h
  have Hcell := Lib.hid hcell; have Hp := Lib.hid hp; clear hcell h hp
  go_enter Tryz.func46, Tryz.ntmps46
  go_wp2_with (fail)
  go_loopw [8] (fun i wr => ∃ k : Nat, k ≤ l.length ∧ i = .int .i64 k ∧ Below w.heap.size w wr ∧ (∀ p x, p < k → l[p]? = some x → q x = false)) (fun i _ => l.length - (intOf i).toNat)
  case atStart => exact ⟨0, Nat.zero_le _, rfl, Below.refl _ _, fun p x hp => by omega⟩
  case round =>
    obtain ⟨k, hk, rfl, hb, hnone⟩ := hrel
    have Hnone := Lib.hid hnone; clear hnone
    by_cases hlt : k < l.length
    · obtain ⟨x, hx⟩ : ∃ x, l[k]? = some x := ⟨l[k], by simp [hlt]⟩
      obtain ⟨b, off, rfl, hlb, c0, c1, c2, c3, c4⟩ := Hcell.out wr hb k x hx
      have hpx := Hp.out wr hb x (List.mem_of_getElem? hx)
      have Hx := Lib.hid hx; clear hx
      cases hq : q x
      · rw [hq] at hpx
        have Hq := Lib.hid hq; clear hq
        go_wp2_with (fail)
        refine hpx.mono ?_
        rintro e w1 ⟨rfl, hb1⟩
        go_wp2_with (fail)
        go_roundw
        case rel =>
          refine ⟨k + 1, by omega, by go_num, hb.trans (hb1.mono hb.size), fun p y hp hy => ?_⟩
          by_cases e : p = k
          · subst e
            have := Hx.out.symm.trans hy
            simp only [Option.some.injEq] at this
            rw [← this]; exact Hq.out
          · exact Hnone.out p y (by omega) hy
        case measure => simp [intOf]; omega
      · rw [hq] at hpx
        have Hfi := Lib.hid (fi_some Hnone.out Hx.out hq); clear hq
        go_wp2_with (fail)
        refine hpx.mono ?_
        rintro e w1 ⟨rfl, hb1⟩
        go_wp2_with (fail)
        go_ret
        exact ⟨by rw [Hfi.out]; rfl, hb.trans (hb1.mono hb.size)⟩
    · obtain rfl : k = l.length := by omega
      have Hfi := Lib.hid (fi_none Hnone.out)
      go_wp2_with (fail)
      go_ret
      exact ⟨by rw [Hfi.out]; rfl, hb⟩

theorem hasn_calls (w : World) (n : Nat) (c : Value) (q : Nd → Bool) (v : Value) (l : List Nd) (eg : ∀ args W, (callFunc n args).run Tryz.prog W = .ok (.enter n args) W) (hp : Picks w n c q l) (h : Rd w 5 encN v l) (hn : l.length ≤ 8796093022208) :
    Calls Tryz.prog 43 #[v, .func (.func n) #[] #[c]] w fun e w' => e = .returned (.bool (l.any q)) ∧ Below w.heap.size w w' := by
  have hi := idxn_calls w n c q v l eg hp h hn
  obtain ⟨ao, cap, rfl, _, _, _⟩ := rd_cellsN h
  rcases fi_any q l with ⟨h1, h2⟩ | ⟨h1, h2⟩
  all_goals
    rw [h1]
    try rw [h2] at hi
    clear h1 hp h
    go_enter Tryz.func43, Tryz.ntmps43
    go_wp2_with (fail)
    refine hi.mono ?_
    rintro e w1 ⟨rfl, hb1⟩
    go_wp2_with (fail)
    go_ret
    exact ⟨rfl, hb1⟩

theorem find1_calls (w : World) (bt : Nat) (key : ByteArray) (x : Nd) (hc : w.heap[bt]? = some (.cells #[.string key] 9 (0, 0))) (hx : Rd w 3 encB x.bv x.blocks) :
    Calls Tryz.prog 47 #[.agg #[.string x.path, .bool x.dir, .int .i64 x.quota, x.bv, .int .i64 x.writer], .pointer (some ⟨bt, 0, none⟩)] w fun e w' => e = .returned (.bool (bs x.path == bs key)) ∧ Below w.heap.size w w' := by
  have hcc := cell_of_one hc
  have hbl := lt_of_block hc
  obtain ⟨ao, cap, hv⟩ := bv_slice hx
  rw [hv]
  clear hx hv hc
  go_enter Tryz.func47, Tryz.ntmps47
  go_wp2_with (fail)
  go_ret
  exact ⟨ret_bool (by rw [tl_bs, tl_bs]), (Below.refl _ _).alloc (Nat.le_refl _) _⟩

def findI (key : Bs) (l : List Nd) : Int := fiN (fun x => bs x.path == key) l
theorem find_calls (w : World) (v : Value) (l : List Nd) (key : ByteArray) (h : RdN w v l) (hn : l.length ≤ 8796093022208) :
    Calls Tryz.prog 17 #[v, .string key] w fun e w' => e = .returned (.int .i64 (findI (bs key) l)) ∧ Below w.heap.size w w' := by
  have hb : Below w.heap.size w (w.alloc (.cells #[.string key] 9 (0, 0))) := (Below.refl _ _).alloc (Nat.le_refl _) _
  have hk := heap_alloc_new w (.cells #[.string key] 9 (0, 0))
  have hp : Picks (w.alloc (.cells #[.string key] 9 (0, 0))) 47 (.pointer (some ⟨w.heap.size, 0, none⟩)) (fun x => bs x.path == bs key) l := by
    intro W hW x hx
    exact find1_calls W w.heap.size key x ((hW.block _ (by simp)).trans hk) ((h.bl x hx).below (hb.trans (hW.mono hb.size)) (Nat.le_refl _))
  have hi := idxn_calls _ 47 _ _ v l (enters Tryz.func47 (by kernel_rfl) rfl) hp (h.rd.below hb (Nat.le_refl _)) hn
  obtain ⟨ao, cap, rfl, _, _, _⟩ := rd_cellsN h.rd
  clear hp h
  go_enter Tryz.func17, Tryz.ntmps17
  go_wp2_with (fail)
  refine hi.mono ?_
  rintro e w1 ⟨rfl, hb1⟩
  go_wp2_with (fail)
  go_ret
  exact ⟨rfl, hb.trans (hb1.mono hb.size)⟩
end Go.Proofs.YtpghaghmejgjbaaGreatDoor.Tree
