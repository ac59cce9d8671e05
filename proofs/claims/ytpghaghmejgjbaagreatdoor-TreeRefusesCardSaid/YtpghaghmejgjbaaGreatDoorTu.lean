/- Trees: tree.Add. -/
import Derived.Test.YtpghaghmejgjbaaGreatDoorTt
namespace Go.Proofs.YtpghaghmejgjbaaGreatDoor
open Go.RowKit
set_option linter.unusedSimpArgs false
set_option linter.unusedVariables false
section
variable {P : Program} {t e : TypeId} {size bytes : Nat} {w : World} {o : Oper} {a : Act} {ops : Array Oper} {rest : List Oper} {Q : Exit → Act → World → Prop} {K : Act → World → Prop} {E : Prop}
/-- append of one element to a slice that is full, whoever owns it: a new row. -/
theorem ET.wp_full (T : ET P t e size bytes) {b : Addr} {n : Nat} {xs : List Value} (hlo : xs.length = n * size) (holds : ∀ j u, xs[j]? = some u → w.cell? (b.add j) = some u) (hone : ∀ u ∈ xs, u.oneCell' = true)
    {B : Nat} {cs : Array Value} (hB : w.heap[B]? = some (.cells cs e (0, 0))) (hcs : cs.size = size) (h1 : ∀ u ∈ cs.toList, u.oneCell' = true) (hb : (n + 1) * bytes ≤ 140737488355328) (h63 : n + 1 ≤ maxLen)
    (s x : Operand) (ho : o.op = .call { callee := .builtin .append, args := #[s, x], argTypes := #[t, t] }) (hs : a.eval s = .slice (some b) n n) (hx : a.eval x = .slice (some ⟨B, 0, none⟩) 1 1)
    (h : ∀ cap w', w'.ownsRow 0 e size (.slice (some ⟨w.heap.size, 0, none⟩) (n + 1) cap) (n + 1) (xs ++ cs.toList) → Below w.heap.size w w' → K (a.put o.dst (.slice (some ⟨w.heap.size, 0, none⟩) (n + 1) cap)) w') : o.wp P a w K Q := by
  obtain ⟨i, z, hi, hz0, hz1, hz2, hz3, _⟩ := T.inf
  subst hz1 hz2
  have hcap := grownCap_ge w (n + 1) n e
  have hcl : cs.toList.length = 1 * i.size := by simpa using hcs
  have hrun := run_append_grow (P := P) (w := w) t o.type e i z T.und hi hz0 b n n xs hlo holds ⟨B, 0, none⟩ 1 1 cs.toList hcl (World.news_of_block hB) (by omega) (by unfold maxLen at h63; omega) (growslice_fits_succ (Nat.le_trans (Nat.mul_le_mul_right _ (Nat.le_succ n)) hb) (Nat.le_trans (show i.bytes ≤ (n + 1) * i.bytes from Nat.le_mul_of_pos_left _ (Nat.succ_pos n)) (by omega)))
  unfold Oper.wp
  simp [execOp, ho, resolve, invoke, builtin, hs, hx, hrun, Result.andThen]
  refine h (grownCap w (n + 1) n e) _ ?_ ?_
  · refine ⟨by rw [List.length_append, hlo, hcl, Nat.add_mul], .inr ⟨w.heap.size, grownCap w (n + 1) n e, _, rfl, Nat.zero_le _, heap_alloc_new w.drew _, hcap, grownCap_le_maxLen _ _ _ _ h63, ?_, ?_⟩⟩
    · simp [hlo, hcs, zeroCells_len, hz3]
      rw [show grownCap w (n + 1) n e = n + 1 + (grownCap w (n + 1) n e - (n + 1)) by omega, Nat.add_sub_cancel_left, Nat.add_mul, Nat.add_mul, Nat.one_mul, Nat.add_assoc]
    · have hl : (xs ++ cs.toList).length = (n + 1) * i.size := by rw [List.length_append, hlo, hcl, Nat.add_mul]
      simp only [Array.toList_append, List.append_assoc]
      rw [← List.append_assoc, List.take_append_of_le_length (by omega), List.take_of_length_le (by omega)]
  · exact Below.alloc (a := w) (w := w.drew) ⟨rfl, rfl, rfl, Nat.le_refl _, fun _ _ => rfl⟩ (Nat.le_refl _) _
theorem ET.step_full (T : ET P t e size bytes) {b : Addr} {n : Nat} {xs : List Value} (hlo : xs.length = n * size) (holds : ∀ j u, xs[j]? = some u → w.cell? (b.add j) = some u) (hone : ∀ u ∈ xs, u.oneCell' = true)
    {B : Nat} {cs : Array Value} (hB : w.heap[B]? = some (.cells cs e (0, 0))) (hcs : cs.size = size) (h1 : ∀ u ∈ cs.toList, u.oneCell' = true) (hb : (n + 1) * bytes ≤ 140737488355328) (h63 : n + 1 ≤ maxLen) (hgd : o.guard = none)
    (s x : Operand) (ho : o.op = .call { callee := .builtin .append, args := #[s, x], argTypes := #[t, t] }) (hs : a.eval s = .slice (some b) n n) (hx : a.eval x = .slice (some ⟨B, 0, none⟩) 1 1)
    (h : ∀ cap w', w'.ownsRow 0 e size (.slice (some ⟨w.heap.size, 0, none⟩) (n + 1) cap) (n + 1) (xs ++ cs.toList) → Below w.heap.size w w' → K (a.put o.dst (.slice (some ⟨w.heap.size, 0, none⟩) (n + 1) cap)) w') :
    if Region.wanted o (yielded ops a.tmps) = true then Oper.wp P o a w K Q else E := by
  rw [if_pos (by simp [Region.wanted, hgd])]
  exact T.wp_full hlo holds hone hB hcs h1 hb h63 s x ho hs hx h
end
end Go.Proofs.YtpghaghmejgjbaaGreatDoor
namespace Go.Proofs.YtpghaghmejgjbaaGreatDoor.Tree
open Go.RowKit
open Path (Bs bs mk bs_mk mk_bs tl_bs splitE splitL MaxC parD parE parN underL under_calls)
set_option linter.unusedSimpArgs false
set_option linter.unusedVariables false

set_option maxHeartbeats 4000000 in
theorem add1_calls (w : World) (x : Nd) (hx : ∃ ax cx, x.bv = .slice ax x.blocks.length cx) :
    Calls Tryz.prog 54 #[.agg #[.string x.path, .bool x.dir, .int .i64 x.quota, x.bv, .int .i64 x.writer]] w fun e w' => e = .returned (.tuple #[.agg #[.string x.path, .bool x.dir, .int .i64 x.quota, x.bv, .int .i64 x.writer], .bool true]) ∧ Below w.heap.size w w' := by
  obtain ⟨ax, cx, hv⟩ := hx
  rw [hv]
  clear hv
  go_enter Tryz.func54, Tryz.ntmps54
  go_wp2_with (fail)
  have n1 : ((w.alloc (.cells #[.string x.path, .bool x.dir, .int .i64 x.quota, .slice ax x.blocks.length cx, .int .i64 x.writer] 25 (0, 0))).alloc (.cells #[.string x.path, .bool x.dir, .int .i64 x.quota, .slice ax x.blocks.length cx, .int .i64 x.writer] 25 (0, 0))).heap[w.heap.size + 1]? = some (.cells #[.string x.path, .bool x.dir, .int .i64 x.quota, .slice ax x.blocks.length cx, .int .i64 x.writer] 25 (0, 0)) := by have := heap_alloc_new (w.alloc (.cells #[.string x.path, .bool x.dir, .int .i64 x.quota, .slice ax x.blocks.length cx, .int .i64 x.writer] 25 (0, 0))) (.cells #[.string x.path, .bool x.dir, .int .i64 x.quota, .slice ax x.blocks.length cx, .int .i64 x.writer] 25 (0, 0)); simpa using this
  refine bodyPost_ret (results_cell_tmp rfl _ _ (w.heap.size + 1) _ _ _ rfl n1 Tryz.underlying25 rfl (by kernel_rfl)) rfl ⟨rfl, ?_⟩
  exact ((Below.refl _ _).alloc (Nat.le_refl _) _).alloc (by simp) _
theorem add_choice (w : World) (l : List Nd) (hl : ∀ x ∈ l, ∃ ax cx, x.bv = .slice ax x.blocks.length cx) : Choice w (fun _ => False) 54 #[] l id (fun _ => true) (fun _ _ => True) where
  calls W hW k x hx _ := by
    refine (add1_calls W x (hl x (List.mem_of_getElem? hx))).mono ?_
    rintro e w' ⟨he, hb⟩
    exact ⟨he, Upd.of_below hb _, trivial⟩
  keep _ _ _ _ _ := trivial
  bl _ _ := rfl
  old _ h := h.elim
  enters := enters Tryz.func54 (by rfl) (by rfl)
set_option maxHeartbeats 1000000 in
theorem clip_calls (w : World) (b off n cap : Nat) (h : n ≤ cap) (hc : cap ≤ maxLen) :
    Calls Tryz.prog 53 #[.slice (some ⟨b, off, none⟩) n cap] w fun e w' => e = .returned (.slice (some ⟨b, off, none⟩) n n) ∧ w' = w := by
  go_enter Tryz.func53, Tryz.ntmps53
  go_wp2_with (fail)
  go_ret
  exact ⟨rfl, rfl⟩

/-- A node in its place. -/
def ins (n : Nd) : List Nd → List Nd
  | [] => [n]
  | y :: t => if ltB (bs n.path) (bs y.path) = true then n :: y :: t else y :: ins n t
theorem ins_perm (n : Nd) : ∀ l : List Nd, (ins n l).Perm (n :: l)
  | [] => List.Perm.refl _
  | y :: t => by
    rw [ins]
    split
    · exact List.Perm.refl _
    · exact ((ins_perm n t).cons y).trans (List.Perm.swap n y t)
theorem ins_sorted {n : Nd} : ∀ {l : List Nd}, Sorted l → Sorted (ins n l)
  | [], _ => List.pairwise_singleton _ _
  | y :: t, h => by
    rw [ins]
    have h' := List.pairwise_cons.1 h
    split
    · rename_i hlt
      refine List.pairwise_cons.2 ⟨fun a ha => ?_, h⟩
      rcases List.mem_cons.1 ha with rfl | ha
      · exact lt_asym hlt
      · cases hx : ltB (bs a.path) (bs n.path)
        · rfl
        · have := h'.1 a ha
          rw [lt_trans _ _ _ hx hlt] at this; cases this
    · rename_i hlt
      refine List.pairwise_cons.2 ⟨fun a ha => ?_, ins_sorted h'.2⟩
      rcases List.mem_cons.1 ((ins_perm n t).mem_iff.1 ha) with rfl | ha
      · simpa using hlt
      · exact h'.1 a ha
/-- Sorted, and no path twice. -/
theorem sorted_rises {l : List Nd} (h : Sorted l) (hd : (l.map fun x => bs x.path).Nodup) : Rises l := by
  have hd' := List.pairwise_map.1 hd
  refine (h.and hd').imp fun {a b} hab => ?_
  rcases lt_tri (bs a.path) (bs b.path) with h3 | h3 | h3
  · exact h3
  · exact absurd h3 hab.2
  · rw [hab.1] at h3; cases h3
theorem rises_sorted {l : List Nd} (h : Rises l) : Sorted l := h.imp fun {a b} hab => lt_asym hab
theorem rises_nodup {l : List Nd} (h : Rises l) : (l.map fun x => bs x.path).Nodup := List.pairwise_map.2 (h.imp fun {a b} hab => lt_ne hab)
theorem rises_ins {n : Nd} {l : List Nd} (h : Rises l) (hn : ∀ y ∈ l, bs y.path ≠ bs n.path) : Rises (ins n l) := by
  refine sorted_rises (ins_sorted (rises_sorted h)) ?_
  refine (((ins_perm n l).map fun x => bs x.path).nodup_iff).2 ?_
  rw [List.map_cons, List.nodup_cons]
  refine ⟨fun hm => ?_, rises_nodup h⟩
  obtain ⟨y, hy, e⟩ := List.mem_map.1 hm
  exact hn y hy e
def addE (l : List Nd) (n : Nd) : Int := if rightT l = true ∧ fitsN n = true ∧ bs n.path ≠ [47] then (if (l.find? fun x => bs x.path == bs n.path).isSome = true then 6 else if dirE l (bs n.path) ≠ 0 then dirE l (bs n.path) else if 60 ≤ l.length then 4 else 0) else 1
def addL (l : List Nd) (n : Nd) : List Nd := (ins n l).map pur
theorem preS_all (l : List Nd) : preS l id (fun _ => true) l.length = l.map pur := by
  rw [preS, List.take_length, List.map_id, List.filter_eq_self.2 (fun _ _ => rfl)]
theorem some_all (w w5 : World) (v : Value) (l : List Nd) (n : Nd) (hB : Below w.heap.size w w5) (h : RdN w5 v (l ++ [n])) (hr : Rises l) (hl : l.length ≤ 60) (hbl : ∀ x ∈ l ++ [n], x.blocks.length ≤ 8) (hn : ∀ y ∈ l, bs y.path ≠ bs n.path) :
    Calls Tryz.prog 49 #[v, .func (.func 54) #[] #[]] w5 fun e w' => (∃ v' q, e = .returned v' ∧ OwnX w w' v' q ∧ q.map pur = addL l n) ∧ Below w5.heap.size w5 w' := by
  have hso := some_calls w5 w5 (fun _ => False) 54 #[] v (l ++ [n]) id (fun _ => true) (fun _ _ => True) (add_choice w5 _ fun x hx => bv_slice (h.bl x hx)) h (Below.refl _ _) (fun _ h => h.elim) (by rw [List.length_append]; simp; omega) (fun x hx => by have := hbl x hx; omega) ⟨n, by simp, rfl⟩ trivial
  refine hso.mono ?_
  rintro e w' ⟨⟨v', q, rfl, hO, hP, hS⟩, hU, -⟩
  refine ⟨⟨v', q, rfl, hO.up hB.size, ?_⟩, hU.toBelow (fun _ h => h.elim) (Nat.le_refl _)⟩
  rw [preS_all] at hP
  refine perm_rises (hP.trans ?_) hS (List.pairwise_map.2 ((rises_ins hr hn).imp fun {a b} h => h))
  exact ((List.perm_append_singleton n l).trans (ins_perm n l).symm).map pur
theorem rd_app {w w5 : World} {b : Addr} {cap0 g cap : Nat} {l : List Nd} {n : Nd} (h : RdN w (.slice (some b) l.length cap0) l) (hn : Rd w 3 encB n.bv n.blocks) (hB : Below w.heap.size w w5) (ho : w5.ownsRow 0 25 5 (.slice (some ⟨g, 0, none⟩) (l.length + 1) cap) (l.length + 1) (flatN l ++ encN n)) : RdN w5 (.slice (some ⟨g, 0, none⟩) (l.length + 1) cap) (l ++ [n]) := by
  refine ⟨Rd.of_own (base := 0) (e := 25) encN_len ?_, fun x hx => ?_⟩
  · rw [show (l ++ [n]).length = l.length + 1 by simp, show (l ++ [n]).flatMap encN = flatN l ++ encN n from flatN_snoc l n]
    exact ho
  · rcases List.mem_append.1 hx with hx | hx
    · exact (h.bl x hx).below hB (Nat.le_refl _)
    · rw [List.mem_singleton] at hx
      subst hx
      exact hn.below hB (Nat.le_refl _)
end Go.Proofs.YtpghaghmejgjbaaGreatDoor.Tree
