/- Edits of spaces: space.Apply, where the edit can't be made. -/
import Derived.Test.YtdfckkadmgmcaaaGreatDoorGk
import Derived.Test.YtdfckkadmgmcaaaGreatDoorZy
import Derived.Test.YtdfckkadmgmcaaaGreatDoorGm
namespace Go.Proofs.YtdfckkadmgmcaaaGreatDoor.Space
open Go.RowKit
open Path (Bs bs mk bs_mk mk_bs tl_bs MaxC splitE splitL parD)
open Tree
set_option linter.unusedSimpArgs false
set_option linter.unusedVariables false
def ApplyP (w : World) (A : Ans) (e' : Ending) (w' : World) : Prop :=
  (∃ (t : Sp) (x : Nd), SameS t A.s ∧ pur x = pur A.n ∧ e' = .returned (.tuple #[.agg (spC t), .agg (ansC { A with n := x })]) ∧
    OwnX w w' t.vn t.nodes ∧ Lease.OwnL w w' t.vl t.leases ∧ OwnB w w' x.bv x.blocks) ∧ Below w.heap.size w w'
/-- An edit that can't be made: the zero space is told. -/
theorem apply_out {w wF : World} {A : Ans} {E : Int} (hA : A = noAns E) (hb : Below w.heap.size w wF) : ApplyP w A (.returned (.tuple #[.agg #[.int .i64 0, .int .i64 0, .int .i64 0, .int .i64 0, .slice none 0 0, .slice none 0 0], .agg (ansC (noAns E))])) wF := by
  subst hA
  exact ⟨⟨zeroS, zeroN, ⟨rfl, rfl, rfl, rfl, rfl, rfl⟩, rfl, rfl, ⟨(OwnN.nil w wF).own, (OwnN.nil w wF).new, fun x hx => by cases hx⟩, ⟨World.ownsRow_nil _ _ _ _, fun g h => by simp [Value.ownBlock, zeroS] at h⟩, OwnB.nil w wF⟩, hb⟩
theorem ed_cells7 {w : World} {N : Nat} {u0 u1 u2 u3 u4 u5 u6 : Value} {t : TypeId} (h : w.heap[N]? = some (.cells #[u0, u1, u2, u3, u4, u5, u6] t (0, 0))) : w.cell? ⟨N, 0, none⟩ = some u0 ∧ w.cell? ⟨N, 1, none⟩ = some u1 ∧ w.cell? ⟨N, 2, none⟩ = some u2 ∧ w.cell? ⟨N, 3, none⟩ = some u3 ∧ w.cell? ⟨N, 4, none⟩ = some u4 ∧ w.cell? ⟨N, 5, none⟩ = some u5 ∧ w.cell? ⟨N, 6, none⟩ = some u6 :=
  ⟨cell_of_blk h, cell_of_blk h, cell_of_blk h, cell_of_blk h, cell_of_blk h, cell_of_blk h, cell_of_blk h⟩
theorem results_two {P : Program} {fn : Func} {p q : Tmp} {ty uy : TypeId} (h : fn.results = #[.cell p ty, .cell q uy]) (tmps : Array Value) (w : World) {g g2 : Nat} {t t2 : TypeId} {cs cs2 : Array Value} {fr fr2 : Nat × Nat} (d d2 : TypeDesc)
    (hp : tmps.getD p undef = .pointer (some ⟨g, 0, none⟩)) (hg : w.heap[g]? = some (.cells cs t fr)) (hu : P.underlying ty = some d) (hd : (match d with | .struct _ | .array _ _ => true | _ => false) = true) (hi : (P.info? ty).map (·.size) = some cs.size)
    (hp2 : tmps.getD q undef = .pointer (some ⟨g2, 0, none⟩)) (hg2 : w.heap[g2]? = some (.cells cs2 t2 fr2)) (hu2 : P.underlying uy = some d2) (hd2 : (match d2 with | .struct _ | .array _ _ => true | _ => false) = true) (hi2 : (P.info? uy).map (·.size) = some cs2.size) :
    (results fn tmps).run P w = .ok (.tuple #[.agg cs, .agg cs2]) w := by
  have hp' : tmps[p]?.getD undef = .pointer (some ⟨g, 0, none⟩) := by simpa using hp
  have hq' : tmps[q]?.getD undef = .pointer (some ⟨g2, 0, none⟩) := by simpa using hp2
  simp [results, h, hp', hq', asAddr, run_loadVar_row w g t ty cs fr d hg hu hd hi, run_loadVar_row w g2 t2 uy cs2 fr2 d2 hg2 hu2 hd2 hi2]
theorem four_new (w : World) (o1 o2 o3 o4 : Obj) : Below w.heap.size w ((((w.alloc o1).alloc o2).alloc o3).alloc o4) ∧ ((((w.alloc o1).alloc o2).alloc o3).alloc o4).heap[w.heap.size]? = some o1 ∧ ((((w.alloc o1).alloc o2).alloc o3).alloc o4).heap[w.heap.size + 1]? = some o2 ∧
    ((((w.alloc o1).alloc o2).alloc o3).alloc o4).heap[w.heap.size + 1 + 1]? = some o3 ∧ ((((w.alloc o1).alloc o2).alloc o3).alloc o4).heap[w.heap.size + 1 + 1 + 1]? = some o4 ∧ ((((w.alloc o1).alloc o2).alloc o3).alloc o4).heap.size = w.heap.size + 4 := by
  obtain ⟨b, k1, k2⟩ := two_new w o1 o2
  have hz : ((w.alloc o1).alloc o2).heap.size = w.heap.size + 1 + 1 := by simp
  obtain ⟨b', k3, k4⟩ := two_new ((w.alloc o1).alloc o2) o3 o4
  have l0 : w.heap.size < ((w.alloc o1).alloc o2).heap.size := by omega
  have l1 : w.heap.size + 1 < ((w.alloc o1).alloc o2).heap.size := by omega
  refine ⟨b.trans (b'.mono (by omega)), (b'.block _ l0).trans k1, (b'.block _ l1).trans k2, ?_, ?_, by simp⟩
  · rw [hz] at k3; exact k3
  · rw [hz] at k4; exact k4
set_option maxRecDepth 100000 in
set_option maxHeartbeats 8000000 in
theorem apply_bad (w : World) (s : Sp) (e : Ed) (h : RdSp w s) (hl : Rd w 1 encI e.lv e.lens) (hn : e.lens.length ≤ 17592186044416) (hM : MaxC w) (hbad : spaceB s = false ∨ spaceB s = true ∧ editB e = false ∨ spaceB s = true ∧ editB e = true ∧ s.txid = 300) :
    Calls Tryz.prog 18 #[.agg (spC s), .agg (edC e)] w (ApplyP w (applyE s e)) := by
  have hmf : ∀ (fn : Fn) (first cap : Array Value) (w : World), (Instr.makeFunc fn first cap).run Tryz.prog w = .ok (.func fn first cap) w := fun _ _ _ _ => rfl
  obtain ⟨A, hA⟩ : ∃ A, A = applyE s e := ⟨_, rfl⟩
  rw [← hA]
  have HA := Lib.hid hA
  have hr := fun W (hW : Below w.heap.size w W) => right_calls W s (h.below hW) (hM.below hW)
  have he := fun W (hW : Below w.heap.size w W) => edit_calls W e (hl.below hW (Nat.le_refl _)) hn
  simp only [spC] at hr
  simp only [edC] at he
  obtain ⟨al, cl, hlv, -⟩ := Lease.rd_cellsI hl
  rw [spC, edC, hlv]
  rw [hlv] at he
  obtain ⟨an, cn, hvn, -⟩ := rd_cellsN h.n.rd
  obtain ⟨avl, cvl, hvl, -⟩ := Lease.rd_cells h.l
  rw [hvn, hvl]
  rw [hvn, hvl] at hr
  have Hr := Lib.hid hr; have He := Lib.hid he; have Hlv := Lib.hid hlv; have Hvn := Lib.hid hvn; have Hvl := Lib.hid hvl
  clear hA hr he h hl hM hlv hvn hvl
  rcases hbad with h1 | ⟨h1, h2⟩ | ⟨h1, h2, h3⟩
  · rw [h1] at Hr
    have HA2 := Lib.hid (HA.out.trans (by rw [applyE, if_pos (.inl h1)]))
    clear HA h1
    go_enter_defers Tryz.func18, Tryz.ntmps18
    go_wp2_with (first
      | (go_at_call 22; (with_reducible refine (Hr.out _ (four_new w _ _ _ _).1).mono ?_); rintro e1 w1 ⟨rfl, hb1⟩; obtain ⟨f1, -, -, f4, f5, f6⟩ := four_new w (.cells #[.int .i64 s.txid, .int .i64 s.nb, .int .i64 s.ng, .int .i64 s.now, .slice an s.nodes.length cn, .slice avl s.leases.length cvl] 27 (0, 0)) (.cells #[.int .i64 e.kind, .string e.path, .string e.dst, .int .i64 e.client, .int .i64 e.call, .int .i64 e.n, .slice al e.lens.length cl] 42 (0, 0)) (.cells #[.int .i64 0, .int .i64 0, .int .i64 0, .int .i64 0, .slice none 0 0, .slice none 0 0] 27 (0, 0)) (.cells #[.int .i64 0, .int .i64 0, .int .i64 0, .int .i64 0, .slice none 0 0, .string ⟨#[]⟩, .bool false, .int .i64 0, .slice none 0 0, .int .i64 0, .int .i64 0] 37 (0, 0)); have k4 := (hb1.block _ (by omega)).trans f4; have k5 := (hb1.block _ (by omega)).trans f5; have Hb1 := Lib.hid (f1.trans (hb1.mono f1.size)); have K4 := Lib.hid k4; have K5 := Lib.hid k5; clear hb1 k4 k5 f1 f4 f5 f6)
      | (go_at_call 45; (with_reducible refine (must_no _ _).mono ?_); rintro e2 w2 ⟨rfl, rfl⟩))
    refine leaves_cons (f := 44) (args := #[.pointer (some ⟨w.heap.size + 1 + 1, 0, none⟩), .pointer (some ⟨w.heap.size + 1 + 1 + 1, 0, none⟩)]) (by simp) (by simp [go_sem]) ?_; refine (undo_panicking _ _ _ _ K4.out K5.out (by omega)).mono ?_; rintro e9 u9 w9 ⟨rfl, rfl, kg, kh, hU⟩; exact ⟨_, results_two rfl _ _ _ _ rfl kg Tryz.underlying27 rfl (by kernel_rfl) rfl kh Tryz.underlying37 rfl (by kernel_rfl), apply_out HA2.out (Hb1.out.trans (hU.toBelow (fun k hk => by rcases hk with h | h <;> omega) Hb1.out.size))⟩
  · rw [h1] at Hr
    rw [h2] at He
    have HA2 := Lib.hid (HA.out.trans (by rw [applyE, if_pos (.inr h2)]))
    clear HA h1 h2
    go_enter_defers Tryz.func18, Tryz.ntmps18
    go_wp2_with (first
      | (go_at_call 22; (with_reducible refine (Hr.out _ (four_new w _ _ _ _).1).mono ?_); rintro e1 w1 ⟨rfl, hb1⟩; obtain ⟨f1, f2, f3, f4, f5, f6⟩ := four_new w (.cells #[.int .i64 s.txid, .int .i64 s.nb, .int .i64 s.ng, .int .i64 s.now, .slice an s.nodes.length cn, .slice avl s.leases.length cvl] 27 (0, 0)) (.cells #[.int .i64 e.kind, .string e.path, .string e.dst, .int .i64 e.client, .int .i64 e.call, .int .i64 e.n, .slice al e.lens.length cl] 42 (0, 0)) (.cells #[.int .i64 0, .int .i64 0, .int .i64 0, .int .i64 0, .slice none 0 0, .slice none 0 0] 27 (0, 0)) (.cells #[.int .i64 0, .int .i64 0, .int .i64 0, .int .i64 0, .slice none 0 0, .string ⟨#[]⟩, .bool false, .int .i64 0, .slice none 0 0, .int .i64 0, .int .i64 0] 37 (0, 0)); have hc0 : w1.cell? ⟨w.heap.size, 0, none⟩ = some (.int .i64 s.txid) := cell_of_blk ((hb1.block _ (by omega)).trans f2); have HL0 := Lib.hid (lt_of_block ((hb1.block _ (by omega)).trans f2)); obtain ⟨d0, d1, d2, d3, d4, d5, d6⟩ := ed_cells7 ((hb1.block _ (by omega)).trans f3); have k4 := (hb1.block _ (by omega)).trans f4; have k5 := (hb1.block _ (by omega)).trans f5; have Hb1 := Lib.hid (f1.trans (hb1.mono f1.size)); have K4 := Lib.hid k4; have K5 := Lib.hid k5; clear hb1 k4 k5 f1 f4 f5 f6)
      | (go_at_call 46; (with_reducible refine (He.out _ Hb1.out).mono ?_); rintro e3 w3 ⟨rfl, hb3⟩; have hc0 := (hb3.cell (p := ⟨w.heap.size, 0, none⟩) HL0.out).trans hc0; have K4 := Lib.hid ((hb3.block _ (lt_of_block K4.out)).trans K4.out); have K5 := Lib.hid ((hb3.block _ (lt_of_block K5.out)).trans K5.out); have Hb1 := Lib.hid (Hb1.out.trans (hb3.mono Hb1.out.size)); clear hb3)
      | (go_at_call 45; (with_reducible refine (must_no _ _).mono ?_); rintro e2 w2 ⟨rfl, rfl⟩))
    refine leaves_cons (f := 44) (args := #[.pointer (some ⟨w.heap.size + 1 + 1, 0, none⟩), .pointer (some ⟨w.heap.size + 1 + 1 + 1, 0, none⟩)]) (by simp) (by simp [go_sem]) ?_; refine (undo_panicking _ _ _ _ K4.out K5.out (by omega)).mono ?_; rintro e9 u9 w9 ⟨rfl, rfl, kg, kh, hU⟩; exact ⟨_, results_two rfl _ _ _ _ rfl kg Tryz.underlying27 rfl (by kernel_rfl) rfl kh Tryz.underlying37 rfl (by kernel_rfl), apply_out HA2.out (Hb1.out.trans (hU.toBelow (fun k hk => by rcases hk with h | h <;> omega) Hb1.out.size))⟩
  · rw [h1] at Hr
    rw [h2] at He
    have HA2 := Lib.hid (HA.out.trans (by rw [applyE, if_neg (by rw [h1, h2]; simp), if_pos h3]))
    have q1 : decide (s.txid < 300) = false := decide_eq_false (by omega)
    clear HA h1 h2 h3
    go_enter_defers Tryz.func18, Tryz.ntmps18
    go_wp2_with (first
      | (go_at_call 22; (with_reducible refine (Hr.out _ (four_new w _ _ _ _).1).mono ?_); rintro e1 w1 ⟨rfl, hb1⟩; obtain ⟨f1, f2, f3, f4, f5, f6⟩ := four_new w (.cells #[.int .i64 s.txid, .int .i64 s.nb, .int .i64 s.ng, .int .i64 s.now, .slice an s.nodes.length cn, .slice avl s.leases.length cvl] 27 (0, 0)) (.cells #[.int .i64 e.kind, .string e.path, .string e.dst, .int .i64 e.client, .int .i64 e.call, .int .i64 e.n, .slice al e.lens.length cl] 42 (0, 0)) (.cells #[.int .i64 0, .int .i64 0, .int .i64 0, .int .i64 0, .slice none 0 0, .slice none 0 0] 27 (0, 0)) (.cells #[.int .i64 0, .int .i64 0, .int .i64 0, .int .i64 0, .slice none 0 0, .string ⟨#[]⟩, .bool false, .int .i64 0, .slice none 0 0, .int .i64 0, .int .i64 0] 37 (0, 0)); have hc0 : w1.cell? ⟨w.heap.size, 0, none⟩ = some (.int .i64 s.txid) := cell_of_blk ((hb1.block _ (by omega)).trans f2); have HL0 := Lib.hid (lt_of_block ((hb1.block _ (by omega)).trans f2)); obtain ⟨d0, d1, d2, d3, d4, d5, d6⟩ := ed_cells7 ((hb1.block _ (by omega)).trans f3); have k4 := (hb1.block _ (by omega)).trans f4; have k5 := (hb1.block _ (by omega)).trans f5; have Hb1 := Lib.hid (f1.trans (hb1.mono f1.size)); have K4 := Lib.hid k4; have K5 := Lib.hid k5; clear hb1 k4 k5 f1 f4 f5 f6)
      | (go_at_call 46; (with_reducible refine (He.out _ Hb1.out).mono ?_); rintro e3 w3 ⟨rfl, hb3⟩; have hc0 := (hb3.cell (p := ⟨w.heap.size, 0, none⟩) HL0.out).trans hc0; have K4 := Lib.hid ((hb3.block _ (lt_of_block K4.out)).trans K4.out); have K5 := Lib.hid ((hb3.block _ (lt_of_block K5.out)).trans K5.out); have Hb1 := Lib.hid (Hb1.out.trans (hb3.mono Hb1.out.size)); clear hb3)
      | (go_at_call 45; (with_reducible refine (must_yes _ _).mono ?_); rintro e4 w4 ⟨rfl, rfl⟩)
      | (go_at_call 45; (with_reducible refine (must_no _ _).mono ?_); rintro e2 w2 ⟨rfl, rfl⟩))
    refine leaves_cons (f := 44) (args := #[.pointer (some ⟨w.heap.size + 1 + 1, 0, none⟩), .pointer (some ⟨w.heap.size + 1 + 1 + 1, 0, none⟩)]) (by simp) (by simp [go_sem]) ?_; refine (undo_panicking _ _ _ _ K4.out K5.out (by omega)).mono ?_; rintro e9 u9 w9 ⟨rfl, rfl, kg, kh, hU⟩; exact ⟨_, results_two rfl _ _ _ _ rfl kg Tryz.underlying27 rfl (by kernel_rfl) rfl kh Tryz.underlying37 rfl (by kernel_rfl), apply_out HA2.out (Hb1.out.trans (hU.toBelow (fun k hk => by rcases hk with h | h <;> omega) Hb1.out.size))⟩
end Go.Proofs.YtdfckkadmgmcaaaGreatDoor.Space
