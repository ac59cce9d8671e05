/- Paths: slices.Grow, slices.Concat at texts. -/
import Derived.Test.YtpghaghmejgjbaaGreatDoorPf
namespace Go.Proofs.YtpghaghmejgjbaaGreatDoor.Path
open Go.RowKit
set_option linter.unusedSimpArgs false

section
variable {P : Program} {t e : TypeId} {size bytes : Nat} {w : World} {o : Oper} {a : Act} {ops : Array Oper} {rest : List Oper} {Q : Exit → Act → World → Prop} {K : Act → World → Prop} {E : Prop}
/-- append([]T(nil), make([]T, k)...): a new row. -/
theorem run_zeros0 (T : ET P t e size bytes) {tn : TypeId} (htn : P.underlying tn = some (.int .i64)) {k : Nat} (hk : 0 < k) (hb : k * bytes ≤ 140737488355328) (h63 : k ≤ maxLen) (ty : TypeId) :
    ∃ w' cap' cur, (Builtin.append_ #[t, tn] ty #[.slice none 0 0, .int .i64 (k : Int)]).run P w = .ok (.slice (some ⟨w.heap.size, 0, none⟩) k cap') w' ∧
      w'.heap[w.heap.size]? = some (.cells cur e (0, 0)) ∧ cur.size = cap' * size ∧ k ≤ cap' ∧ cap' ≤ maxLen ∧ Below w.heap.size w w' ∧ w.heap.size < w'.heap.size := by
  obtain ⟨inf, z, hi0, hz0, hz1, hz2, hz3, hone⟩ := T.inf
  have hp := T.pos
  have hge := grownCap_ge w k 0 e
  have hcm := grownCap_le_maxLen w k 0 e h63
  have h63' := h63
  unfold maxLen at h63'
  have hw : IntKind.i64.wrap (k : Int) = k := by rw [IntKind.wrap_i64]; omega
  have hneg : ¬ ((k : Int) < 0) := by omega
  have h48i : ¬ (281474976710656 < (k : Int) * (bytes : Int)) := by rw [← Int.natCast_mul]; omega
  have hns : ¬ (k * size = 0) := Nat.mul_ne_zero (by omega) (by omega)
  have hk0 : ¬ (k = 0) := by omega
  have hmx : ¬ (9223372036854775807 < (k : Int)) := by omega
  have h48 : ¬ (281474976710656 < Builtin.nextslicecap k 0 * bytes) := by
    have := growslice_fits (need := k) (old := 0) (by omega) hb
    omega
  refine ⟨w.drew.alloc (.cells (Builtin.zeroCells z.cells k ++ Builtin.zeroCells z.cells (grownCap w k 0 e - k)) e), grownCap w k 0 e, _, ?_, heap_alloc_new w.drew _, ?_, hge, hcm, (Below.refl _ w).drew.alloc (Nat.le_refl _) _, by simp⟩
  · subst hz2
    simp [Builtin.append_, run_underlying T.und, run_underlying htn, sizeOf, typeInfo, zeroValue, hi0, hz0, hz1, asInt, asIntOf, hw, hneg, hns, hk0, hmx, h48, h48i, Question.forced, newRow, grownCap, Builtin.firstCells]
  · simp only [Array.size_append, size_zeroCells, hz3, ← Nat.add_mul]
    congr 1; omega
theorem wpList_zeros0 (T : ET P t e size bytes) {tn : TypeId} (htn : P.underlying tn = some (.int .i64)) {k : Nat} (hk : 0 < k) (hb : k * bytes ≤ 140737488355328) (h63 : k ≤ maxLen)
    (hgd : o.guard = none) (s x : Operand) (ho : o.op = .call { callee := .builtin .append, args := #[s, x], argTypes := #[t, tn] }) (hs : a.eval s = .slice none 0 0) {kI : Int} (hx : a.eval x = .int .i64 kI) (hkI : kI = (k : Int))
    (h : ∀ w' cap' cur, w'.heap[w.heap.size]? = some (.cells cur e (0, 0)) → cur.size = cap' * size → k ≤ cap' → cap' ≤ maxLen → Below w.heap.size w w' → w.heap.size < w'.heap.size → wpList P ops Q rest (a.put o.dst (.slice (some ⟨w.heap.size, 0, none⟩) k cap')) w') : wpList P ops Q (o :: rest) a w := by
  subst hkI
  refine wpList_plain hgd fun K hK => ?_
  obtain ⟨w', cap', cur, hrun, h1, h2, h3, h4, h6, h7⟩ := run_zeros0 (w := w) T htn hk hb h63 o.type
  unfold Oper.wp execOp
  simp only [ho, resolve, invoke, builtin, Sem.run_bind, Sem.run_pure, Result.andThen_ok, List.map_toArray, List.map_cons, List.map_nil, hs, hx, hrun]
  exact hK _ _ (h w' cap' cur h1 h2 h3 h4 h6 h7)
end

/-- slices.Grow([]string(nil), n). -/
theorem grow_calls (w : World) (n : Nat) (hn : n ≤ 1000000) :
    Calls Tryz.prog 98 #[.slice none 0 0, .int .i64 (n : Int)] w fun e w' => ∃ v', e = .returned v' ∧ OwnS w w' v' [] ∧ Below w.heap.size w w' := by
  by_cases h0 : n = 0
  · subst h0
    go_enter Tryz.func98, Tryz.ntmps98
    go_wp2_with (fail)
    go_ret
    exact ⟨_, rfl, OwnS.nil _ _, Below.refl _ _⟩
  · have hpos : 0 < (n : Int) := by omega
    have hw : IntKind.i64.wrap (n : Int) = n := by rw [IntKind.wrap_i64]; omega
    go_enter Tryz.func98, Tryz.ntmps98
    go_wp2_with (at_builtin; (with_reducible refine wpList_zeros0 etS Tryz.underlying3 (k := n) (by omega) (by omega) (by unfold maxLen; omega) rfl (.tmp 20) (.tmp 21) rfl rfl rfl rfl ?_); intro w1 cap1 cur1 hg1 hs1 hc1 hm1 hb1 hl1; have Hg1 := Lib.hid hg1; clear hg1)
    go_ret
    refine ⟨.slice (some ⟨w.heap.size, 0, none⟩) 0 cap1, rfl, ⟨⟨rfl, .inr ⟨w.heap.size, cap1, cur1, rfl, Nat.zero_le _, Hg1.out, Nat.zero_le _, hm1, hs1, rfl⟩⟩, fun g hg => ?_⟩, hb1⟩
    simp only [Value.ownBlock, Option.some.injEq] at hg
    omega

/-- A slice of texts, as it is handed on. -/
structure RdS (w : World) (v : Value) (l : List ByteArray) : Prop where
  rd : Rd w 1 encS v l
  z : ∀ n c, v = .slice none n c → c = 0
theorem RdS.below {w w' : World} {v : Value} {l : List ByteArray} (h : RdS w v l) (hb : Below w.heap.size w w') : RdS w' v l := ⟨h.rd.below hb (Nat.le_refl _), h.z⟩
theorem OwnS.rds {w w' : World} {v : Value} {q : List ByteArray} (h : OwnS w w' v q) : RdS w' v q := by
  refine ⟨h.rd, fun n c e => ?_⟩
  rcases h.own.2 with ⟨hv, _⟩ | ⟨g, cap, cur, hv, _⟩
  · rw [hv] at e; cases e; rfl
  · rw [hv] at e; cases e
theorem flatS_one (l : List ByteArray) : ∀ u ∈ flatS l, u.oneCell' = true := by
  intro u hu
  rw [flatS_map] at hu
  obtain ⟨x, _, rfl⟩ := List.mem_map.1 hu
  rfl
theorem flatS_append (l m : List ByteArray) : flatS (l ++ m) = flatS l ++ flatS m := by simp [flatS]
theorem rd_flatS {w : World} {v : Value} {l : List ByteArray} (h : Rd w 1 encS v l) {ad : Addr} {cap : Nat} (hv : v = .slice (some ad) l.length cap) : ∀ W, Below w.heap.size w W → ∀ j u, (flatS l)[j]? = some u → W.cell? (ad.add j) = some u := by
  intro W hW j u hu
  obtain ⟨ao, cap', hv', _, _, hcell⟩ := rd_cellsS h
  rw [hv] at hv'
  simp only [Value.slice.injEq, true_and] at hv'
  obtain ⟨rfl, rfl⟩ := hv'
  rw [flatS_map, List.getElem?_map, Option.map_eq_some_iff] at hu
  obtain ⟨x, hx, rfl⟩ := hu
  obtain ⟨b, off, e, _, hc⟩ := hcell W hW j x hx
  cases e
  rw [Addr.add_lit]
  exact hc

/-- What is there behind the first k of two lists. -/
def upTo (l1 l2 : List ByteArray) (k : Nat) : List ByteArray := if k = 0 then [] else if k = 1 then l1 else l1 ++ l2
def lenUp (l1 l2 : List ByteArray) (k : Nat) : Nat := if k = 0 then 0 else if k = 1 then l1.length else l1.length + l2.length

set_option maxHeartbeats 4000000 in
theorem conc_calls (w : World) (B : Nat) (s1 s2 : Value) (l1 l2 : List ByteArray) (hB : w.heap[B]? = some (.cells #[s1, s2] 27 (0, 0))) (h1 : RdS w s1 l1) (h2 : RdS w s2 l2) (hn : l1.length + l2.length ≤ 1000) :
    Calls Tryz.prog 78 #[.slice (some ⟨B, 0, none⟩) 2 2] w fun e w' => ∃ v', e = .returned v' ∧ OwnS w w' v' (l1 ++ l2) ∧ Below w.heap.size w w' := by
  have hBl := lt_of_block hB
  have c0 := fun W (hW : Below w.heap.size w W) => (hW.cell (p := ⟨B, 0, none⟩) hBl).trans (cell_of_blk (j := 0) hB)
  have c1 := fun W (hW : Below w.heap.size w W) => (hW.cell (p := ⟨B, 1, none⟩) hBl).trans (cell_of_blk (j := 1) hB)
  simp only [List.getElem?_toArray, List.getElem?_cons_zero, List.getElem?_cons_succ] at c0 c1
  have f1 := fun ad cap (hv : s1 = .slice (some ad) l1.length cap) => rd_flatS h1.rd hv
  have f2 := fun ad cap (hv : s2 = .slice (some ad) l2.length cap) => rd_flatS h2.rd hv
  have z1 := h1.z; have z2 := h2.z
  obtain ⟨a1, k1, rfl, _, _, e1⟩ := rd_cellsS h1.rd
  obtain ⟨a2, k2, rfl, _, _, e2⟩ := rd_cellsS h2.rd
  have n1 : a1 = none → l1.length = 0 ∧ k1 = 0 := fun e => by
    refine ⟨?_, z1 l1.length k1 (by rw [e])⟩
    cases hl : l1 with
    | nil => rfl
    | cons x t => obtain ⟨b, off, e', _⟩ := e1 w (Below.refl _ _) 0 x (by rw [hl]; rfl); rw [e] at e'; cases e'
  have n2 : a2 = none → l2.length = 0 ∧ k2 = 0 := fun e => by
    refine ⟨?_, z2 l2.length k2 (by rw [e])⟩
    cases hl : l2 with
    | nil => rfl
    | cons x t => obtain ⟨b, off, e', _⟩ := e2 w (Below.refl _ _) 0 x (by rw [hl]; rfl); rw [e] at e'; cases e'
  have F1 := Lib.hid (fun ad => f1 ad k1); have F2 := Lib.hid (fun ad => f2 ad k2); have N1 := Lib.hid n1; have N2 := Lib.hid n2; clear f1 f2 n1 n2 z1 z2 e1 e2 h1 h2
  have C0 := Lib.hid c0; have C1 := Lib.hid c1; clear c0 c1 hB
  go_enter Tryz.func78, Tryz.ntmps78
  go_wp2_with (fail)
  go_loopw [3, 11] (fun vs vk wr => ∃ k : Nat, vk = .int .i64 k ∧ k ≤ 2 ∧ vs = .int .i64 (lenUp l1 l2 k) ∧ wr = w) (fun _ vk _ => 2 - (intOf vk).toNat)
  case atStart => exact ⟨0, rfl, by omega, rfl, rfl⟩
  case round =>
    obtain ⟨k, rfl, hk, rfl, hwr⟩ := hrel
    obtain rfl : w = wr := hwr.symm
    rcases (by omega : k = 0 ∨ k = 1 ∨ k = 2) with rfl | rfl | rfl
    · have d := C0.out w (Below.refl _ _)
      have j1 : IntKind.i64.wrap (l1.length : Int) = l1.length := by rw [IntKind.wrap_i64]; omega
      have j2 : ¬ (l1.length : Int) < 0 := by omega
      have j0 : lenUp l1 l2 0 = 0 := rfl
      rw [j0]
      clear j0
      go_wp2_with (fail)
      go_roundw
      case rel => exact ⟨1, rfl, by omega, rfl, by trivial⟩
      case measure => simp [intOf]
    · have d := C1.out w (Below.refl _ _)
      have j1 : IntKind.i64.wrap ((l1.length : Int) + (l2.length : Int)) = l1.length + l2.length := by rw [IntKind.wrap_i64]; omega
      have j2 : ¬ (l1.length : Int) + (l2.length : Int) < 0 := by omega
      have j0 : lenUp l1 l2 1 = l1.length := rfl
      rw [j0]
      clear j0
      go_wp2_with (fail)
      go_roundw
      case rel => exact ⟨2, rfl, by omega, by rw [show lenUp l1 l2 2 = l1.length + l2.length from rfl]; push_cast; rfl, by trivial⟩
      case measure => simp [intOf]
    · have hg := grow_calls w (lenUp l1 l2 2) (by rw [show lenUp l1 l2 2 = l1.length + l2.length from rfl]; omega)
      generalize lenUp l1 l2 2 = n at *
      go_wp2_with (fail)
      refine hg.mono ?_
      rintro e w1 ⟨v1, rfl, hO1, hb1⟩
      go_wp2_with (fail)
      go_loopw [6, 27] (fun vo vk wr => ∃ k : Nat, vk = .int .i64 k ∧ k ≤ 2 ∧ OwnS w wr vo (upTo l1 l2 k) ∧ Below w.heap.size w wr) (fun _ vk _ => 2 - (intOf vk).toNat)
      case atStart => exact ⟨0, rfl, by omega, hO1, hb1⟩
      case round =>
        obtain ⟨k, rfl, hk, hO, hb⟩ := hrel
        clear hO1 hb1
        have hsz := hb.size
        rcases (by omega : k = 0 ∨ k = 1 ∨ k = 2) with rfl | rfl | rfl
        · have d := C0.out wr hb
          have hown := hO.own
          have hnew := hO.new
          have HN := Lib.hid hnew; have Hb := Lib.hid hb; have HW := Lib.hid hown; clear hnew hb hO hown
          go_wp2_with (at_builtin; (with_reducible refine etS.wpList_app HW.out (m := l1.length) (c := k1) (ao := a1) (news := flatS l1) (by rw [flatS_len]; omega) N1.out (fun ad h => F1.out ad (congrArg (fun a => Value.slice a l1.length k1) h) _ Hb.out) (flatS_one l1) (by simp [upTo]; omega) (by unfold maxLen; simp [upTo]; omega) rfl (.tmp 31) (.tmp 32) rfl rfl rfl ?_); intro v3 w3 own3 grow3 at3 nil3)
          go_roundw
          case rel =>
            refine ⟨1, rfl, by omega, ⟨?_, fun g hg => ?_⟩, Hb.out.grown grow3 hsz HN.out⟩
            · rw [show upTo l1 l2 1 = l1 from rfl]
              rw [show upTo l1 l2 0 = [] from rfl] at own3
              rw [show flatS [] = [] from rfl, List.nil_append, List.length_nil, Nat.zero_add] at own3
              exact own3
            · rcases at3 with e | e
              · exact HN.out g (e ▸ hg)
              · rw [e] at hg; simp at hg; omega
          case measure => simp [intOf]
        · have d := C1.out wr hb
          have hown := hO.own
          have hnew := hO.new
          have HN := Lib.hid hnew; have Hb := Lib.hid hb; have HW := Lib.hid hown; clear hnew hb hO hown
          go_wp2_with (at_builtin; (with_reducible refine etS.wpList_app HW.out (m := l2.length) (c := k2) (ao := a2) (news := flatS l2) (by rw [flatS_len]; omega) N2.out (fun ad h => F2.out ad (congrArg (fun a => Value.slice a l2.length k2) h) _ Hb.out) (flatS_one l2) (by simp [upTo]; omega) (by unfold maxLen; simp [upTo]; omega) rfl (.tmp 31) (.tmp 32) rfl rfl rfl ?_); intro v3 w3 own3 grow3 at3 nil3)
          go_roundw
          case rel =>
            refine ⟨2, rfl, by omega, ⟨?_, fun g hg => ?_⟩, Hb.out.grown grow3 hsz HN.out⟩
            · rw [show upTo l1 l2 2 = l1 ++ l2 from rfl, List.length_append, flatS_append]
              exact own3
            · rcases at3 with e | e
              · exact HN.out g (e ▸ hg)
              · rw [e] at hg; simp at hg; omega
          case measure => simp [intOf]
        · have HO := Lib.hid hO; clear hO
          go_wp2_with (fail)
          go_ret
          exact ⟨_, rfl, HO.out, hb⟩
end Go.Proofs.YtpghaghmejgjbaaGreatDoor.Path
