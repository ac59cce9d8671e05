/- Images: image.Decode, walked. -/
import Derived.Test.YtgpddngbccecfaaDoorJc
import Derived.Test.YtgpddngbccecfaaDoorIg
namespace Go.Proofs.YtgpddngbccecfaaDoor.Image
open Go.RowKit
open Path (Bs bs mk bs_mk mk_bs tl_bs MaxC rd_cellsS OwnS flatS)
open Tree
open Space (Sp spC RdSp spaceB)
open Wire (numB textB sealB takeN textT openE openT)
set_option linter.unusedSimpArgs false
set_option linter.unusedVariables false
/-- What a decoding comes to. -/
def DecPost (w : World) (r : Option Sp) (E : Int) (e : Ending) (w' : World) : Prop :=
  ((∃ s : Sp, e = .returned (.tuple #[.agg (spC s), .int .i64 0]) ∧ r = some (purS s) ∧ E = 0 ∧ OwnX w w' s.vn s.nodes ∧ Lease.OwnL w w' s.vl s.leases ∧ spaceB s = true) ∨
    (r = none ∧ E ≠ 0 ∧ e = .returned (.tuple #[.agg #[.int .i64 0, .int .i64 0, .int .i64 0, .int .i64 0, .slice none 0 0, .slice none 0 0], .int .i64 E]))) ∧ Below w.heap.size w w'
def strLen : Value → Nat
  | .string s => s.size
  | _ => 0
theorem str_mk (r : Bs) : strLen (.string (mk r)) = r.length := Path.mk_size r
theorem set6 {W : World} {g : Nat} {u0 u1 u2 u3 u4 u5 : Value} {t : TypeId} (v0 v1 v2 v3 v4 v5 : Value) (h : W.heap[g]? = some (.cells #[u0, u1, u2, u3, u4, u5] t (0, 0))) :
    ((((((W.setCell ⟨g, 0, none⟩ v0).setCell ⟨g, 1, none⟩ v1).setCell ⟨g, 2, none⟩ v2).setCell ⟨g, 3, none⟩ v3).setCell ⟨g, 4, none⟩ v4).setCell ⟨g, 5, none⟩ v5).heap[g]? = some (.cells #[v0, v1, v2, v3, v4, v5] t (0, 0)) :=
  heap_setCell_same _ _ 5 _ _ v5 (heap_setCell_same _ _ 4 _ _ v4 (heap_setCell_same _ _ 3 _ _ v3 (heap_setCell_same _ _ 2 _ _ v2 (heap_setCell_same _ _ 1 _ _ v1 (heap_setCell_same _ _ 0 _ _ v0 h)))))
theorem below6 {B : Nat} {w W : World} {g : Nat} (v0 v1 v2 v3 v4 v5 : Value) (h : Below B w W) (hg : B ≤ g) : Below B w ((((((W.setCell ⟨g, 0, none⟩ v0).setCell ⟨g, 1, none⟩ v1).setCell ⟨g, 2, none⟩ v2).setCell ⟨g, 3, none⟩ v3).setCell ⟨g, 4, none⟩ v4).setCell ⟨g, 5, none⟩ v5) :=
  (((((h.setCell hg _).setCell hg _).setCell hg _).setCell hg _).setCell hg _).setCell hg _
theorem dec_bad {b : Bs} (h : (openAll b).1 ≠ 0) : decS readP b = none ∧ decE readP b = (openAll b).1 := by
  rw [decS, if_neg h, decE, if_neg h]; exact ⟨rfl, rfl⟩
theorem dec_no {b : Bs} {l : List Bs} (h : openAll b = (0, l)) (hr : readP l = none ∨ ∃ s, readP l = some s ∧ ¬ (spaceB s = true ∧ imageB s = b)) : decS readP b = none ∧ decE readP b = 2 := by
  have h1 : decS readP b = none := by
    rw [decS, h, if_pos rfl]
    rcases hr with h2 | ⟨s, h2, h3⟩
    · simp only [h2]
    · simp only [h2, if_neg h3]
  exact ⟨h1, by rw [decE, h, if_pos rfl, h1]; rfl⟩
theorem dec_ok {b : Bs} {l : List Bs} {s : Sp} (h : openAll b = (0, l)) (hr : readP l = some s) (h1 : spaceB s = true) (h2 : imageB s = b) : decS readP b = some s ∧ decE readP b = 0 := by
  have h3 : decS readP b = some s := by rw [decS, h, if_pos rfl]; simp only [hr, if_pos (show spaceB s = true ∧ imageB s = b from ⟨h1, h2⟩)]
  exact ⟨h3, by rw [decE, h, if_pos rfl, h3]; rfl⟩
theorem ownL_below {w w' w'' : World} {v : Value} {q : List Lease.Le} (h : Lease.OwnL w w' v q) (hb : Below w'.heap.size w' w'') : Lease.OwnL w w'' v q :=
  ⟨below_ownsRow hb h.own (fun g hg => own_ltN h.own g hg), h.new⟩
theorem upd6 {W : World} {g : Nat} (v0 v1 v2 v3 v4 v5 : Value) : Upd (fun k => k = g) W ((((((W.setCell ⟨g, 0, none⟩ v0).setCell ⟨g, 1, none⟩ v1).setCell ⟨g, 2, none⟩ v2).setCell ⟨g, 3, none⟩ v3).setCell ⟨g, 4, none⟩ v4).setCell ⟨g, 5, none⟩ v5) := by
  have s : ∀ (X : World) (i : Nat) (v : Value), Upd (fun k => k = g) W X → Upd (fun k => k = g) W (X.setCell ⟨g, i, none⟩ v) := fun X i v h => Upd.setCell (F := fun k => k = g) h (p := ⟨g, i, none⟩) (.inl rfl) v
  exact s _ 5 v5 (s _ 4 v4 (s _ 3 v3 (s _ 2 v2 (s _ 1 v1 (s _ 0 v0 (Upd.refl _ _))))))
theorem mk_nil_empty : (mk []).toList.isEmpty = true := by rw [tl_bs, bs_mk]; rfl
theorem mk_ne_empty {r : Bs} (h : r ≠ []) : (mk r).toList.isEmpty = false := by
  rw [tl_bs, bs_mk]
  cases r with
  | nil => exact absurd rfl h
  | cons _ _ => rfl
set_option maxRecDepth 4000 in
set_option maxHeartbeats 4000000 in
theorem decode_calls (w : World) (b : ByteArray) (hb : b.size ≤ 3000000) (hM : MaxC w) : Calls Tryd.prog 7 #[.string b] w (DecPost w (decS readP (bs b)) (decE readP (bs b))) := by
  have hb0 := (Below.refl w.heap.size w).alloc (Nat.le_refl _) (.cells #[.int .i64 0, .int .i64 0, .int .i64 0, .int .i64 0, .slice none 0 0, .slice none 0 0] 25 (0, 0))
  have hk0 := heap_alloc_new w (.cells #[.int .i64 0, .int .i64 0, .int .i64 0, .int .i64 0, .slice none 0 0, .slice none 0 0] 25 (0, 0))
  have hlb := Path.bs_len b
  have Hb0 := Lib.hid hb0; have Hk0 := Lib.hid hk0; have HM := Lib.hid hM
  clear hb0 hk0 hM
  obtain ⟨B, hB⟩ : ∃ B, B = bs b := ⟨_, rfl⟩
  have hbl : B.length ≤ 3000000 := by rw [hB]; omega
  have hbm : b = mk B := by rw [hB, mk_bs]
  rw [← hB]
  have HBm := Lib.hid hbm
  clear hlb hB
  go_enter Tryd.func7, Tryd.ntmps7
  go_wp2_with (fail)
  have hO0 : OwnS (w.alloc (.cells #[.int .i64 0, .int .i64 0, .int .i64 0, .int .i64 0, .slice none 0 0, .slice none 0 0] 25 (0, 0))) (w.alloc (.cells #[.int .i64 0, .int .i64 0, .int .i64 0, .int .i64 0, .slice none 0 0, .slice none 0 0] 25 (0, 0))) (.slice none 0 0) [] := OwnS.nil _ _
  have hop0 : openAll B = ahead ([].map bs) (openAll B) := (ahead_nil (all_err B)).symm
  have HO0 := Lib.hid hO0; have Hop0 := Lib.hid hop0
  clear hO0 hop0
  go_loopw [3, 4, 5] (fun _ vt vr wr => ∃ (ql : List ByteArray) (r : Bs) (va : Value), va = vt ∧ vr = .string (mk r) ∧ OwnS (w.alloc (.cells #[.int .i64 0, .int .i64 0, .int .i64 0, .int .i64 0, .slice none 0 0, .slice none 0 0] 25 (0, 0))) wr va ql ∧ openAll B = ahead (ql.map bs) (openAll r) ∧ r.length + 5 * ql.length ≤ B.length ∧ (∀ p ∈ ql, (bs p).length ≤ 4000) ∧ Below (w.alloc (.cells #[.int .i64 0, .int .i64 0, .int .i64 0, .int .i64 0, .slice none 0 0, .slice none 0 0] 25 (0, 0))).heap.size (w.alloc (.cells #[.int .i64 0, .int .i64 0, .int .i64 0, .int .i64 0, .slice none 0 0, .slice none 0 0] 25 (0, 0))) wr) (fun _ _ vr _ => strLen vr)
  case atStart => exact ⟨[], B, _, rfl, by rw [HBm.out], HO0.out, Hop0.out, by simp, fun p hp => (by cases hp), Below.refl _ _⟩
  case round =>
    obtain ⟨ql, r, va, rfl, rfl, hO, hop, hsz, hql, hb1⟩ := hrel
    have hszw := hb1.size
    have hsz0 : w.heap.size < wr.heap.size := by simp at hszw; omega
    have hkr := (hb1.block w.heap.size (by simp)).trans Hk0.out
    have hbw : Below w.heap.size w wr := Hb0.out.trans (hb1.mono (by simp))
    have HO := Lib.hid hO; have Hop := Lib.hid hop; have Hql := Lib.hid hql; have Hb1 := Lib.hid hb1; have Hkr := Lib.hid hkr; have Hbw := Lib.hid hbw
    clear hO hop hql hb1 hkr hbw
    by_cases hr : r = []
    · subst hr
      have he := mk_nil_empty
      have hall := all_end Hop.out
      have hqn : ql.length ≤ 600000 := by omega
      have hread := read_calls wr va ql HO.out.rd (by omega) (fun p hp => Nat.le_trans (Hql.out p hp) (by omega))
      obtain ⟨av, cv, rfl, -, -, -⟩ := rd_cellsS HO.out.rd
      have Hall := Lib.hid hall; have Hread := Lib.hid hread
      clear hall hread Hop HO
      go_wp2_with (fail)
      refine Hread.out.mono ?_
      rintro e w2 hpost
      unfold ReadPost at hpost
      obtain ⟨hpost, hb2⟩ := hpost
      rcases hpost with ⟨s, he, hrd, hX, hL, hn1, hn2⟩ | ⟨hno, s, he, hv1, hv2⟩
      · subst he
        have hs0 := lt_of_block Hkr.out
        have hbw2 : Below w.heap.size w w2 := Hbw.out.trans (hb2.mono (by omega))
        have hk2 := (hb2.block w.heap.size hs0).trans Hkr.out
        have hlt2 := hb2.size
        have hrd2 : RdSp (w2.alloc (.cells #[.int .i64 s.txid, .int .i64 s.nb, .int .i64 s.ng, .int .i64 s.now, s.vn, s.vl] 25 (0, 0))) s := ⟨hX.rd.below ((Below.refl _ _).alloc (Nat.le_refl _) _), (Rd.of_own Lease.encL_len hL.own).below ((Below.refl w2.heap.size w2).alloc (Nat.le_refl _) _) (Nat.le_refl _), by omega, by omega⟩
        have hb3 : Below w.heap.size w (w2.alloc (.cells #[.int .i64 s.txid, .int .i64 s.nb, .int .i64 s.ng, .int .i64 s.now, s.vn, s.vl] 25 (0, 0))) := hbw2.alloc hbw2.size _
        have henc := encode_calls (w2.alloc (.cells #[.int .i64 s.txid, .int .i64 s.nb, .int .i64 s.ng, .int .i64 s.now, s.vn, s.vl] 25 (0, 0))) s hrd2 (HM.out.below hb3)
        have hk3 := ((Below.refl w2.heap.size w2).alloc (Nat.le_refl _) (.cells #[.int .i64 s.txid, .int .i64 s.nb, .int .i64 s.ng, .int .i64 s.now, s.vn, s.vl] 25 (0, 0))).block w.heap.size (by omega) |>.trans hk2
        have hka := heap_alloc_new w2 (.cells #[.int .i64 s.txid, .int .i64 s.nb, .int .i64 s.ng, .int .i64 s.now, s.vn, s.vl] 25 (0, 0))
        obtain ⟨an, cn, hvn, -, -, -⟩ := rd_cellsN hX.rd.rd
        obtain ⟨al, cl, hvl, -, -, -⟩ := Lease.rd_cells (Rd.of_own Lease.encL_len hL.own)
        have hrd' := hrd
        rcases s with ⟨tx, nb, ng, now, nodes, leases, vn, vl⟩
        simp only at hvn hvl
        subst hvn hvl
        have Hrd := Lib.hid hrd; have HX := Lib.hid hX; have HL := Lib.hid hL; have Henc := Lib.hid henc; have Hk3 := Lib.hid hk3; have Hka := Lib.hid hka; have Hbw2 := Lib.hid hbw2
        clear hrd hX hL henc hk3 hka hrd' hrd2 hb3 hk2 hbw2 hb2 hn1 hn2
        have hs2 : w.heap.size < w2.heap.size := by omega
        rw [spC]
        go_wp2_with (fail)
        refine Henc.out.mono ?_
        rintro e w3 ⟨rfl, hb3⟩
        have hk4 := (hb3.block w.heap.size (by simp; omega)).trans Hk3.out
        have hk5 := (hb3.block w2.heap.size (by simp)).trans Hka.out
        obtain ⟨q0, q1, q2, q3, q4, q5⟩ := cells6 hk4
        obtain ⟨p0, p1, p2, p3, p4, p5⟩ := cells6 hk5
        have hz := free_all hk4
        have hB3 := Hbw2.out.trans ((((Below.refl w2.heap.size w2).alloc (Nat.le_refl _) _).trans (hb3.mono (by simp))).mono Hbw2.out.size)
        have hB4 : Below w2.heap.size w2 w3 := ((Below.refl w2.heap.size w2).alloc (Nat.le_refl _) _).trans (hb3.mono (by simp))
        have HB3 := Lib.hid hB3; have Hk4 := Lib.hid hk4; have HB4 := Lib.hid hB4
        clear hb3 hk4 hk5 hB3 hB4
        cases hsp : spaceB ⟨tx, nb, ng, now, nodes, leases, .slice an nodes.length cn, .slice al leases.length cl⟩ with
        | false =>
          have hd := dec_no Hall.out (.inr ⟨_, Hrd.out, fun h => by rw [space_pur, hsp] at h; cases h.1⟩)
          have hE : encE ⟨tx, nb, ng, now, nodes, leases, .slice an nodes.length cn, .slice al leases.length cl⟩ = 1 := by rw [encE, hsp]; rfl
          rw [hE]
          have Hd := Lib.hid hd
          clear hd hE hsp
          generalize encS ⟨tx, nb, ng, now, nodes, leases, .slice an nodes.length cn, .slice al leases.length cl⟩ = S at *
          go_wp2_with (fail)
          refine bodyPost_ret (results_cell_tmp rfl _ _ _ _ _ _ rfl (set6 _ _ _ _ _ _ Hk4.out) Tryd.underlying25 rfl (by kernel_rfl)) rfl ?_
          exact ⟨.inr ⟨Hd.out.1, by rw [Hd.out.2]; decide, by rw [Hd.out.2]; rfl⟩, below6 _ _ _ _ _ _ HB3.out (Nat.le_refl _)⟩
        | true =>
          have hE : encE ⟨tx, nb, ng, now, nodes, leases, .slice an nodes.length cn, .slice al leases.length cl⟩ = 0 := by rw [encE, hsp]; rfl
          have hS : encS ⟨tx, nb, ng, now, nodes, leases, .slice an nodes.length cn, .slice al leases.length cl⟩ = imageB ⟨tx, nb, ng, now, nodes, leases, .slice an nodes.length cn, .slice al leases.length cl⟩ := by rw [encS, hsp]; rfl
          rw [hE, hS]
          by_cases him : imageB ⟨tx, nb, ng, now, nodes, leases, .slice an nodes.length cn, .slice al leases.length cl⟩ = B
          · have hd := dec_ok Hall.out Hrd.out (by rw [space_pur]; exact hsp) (by rw [image_pur]; exact him)
            rw [him]
            have q : ((mk B).toList == (mk B).toList) = true := by simp
            have q2 : ((mk B).toList != (mk B).toList) = false := by simp
            have Hd := Lib.hid hd; have Hsp := Lib.hid hsp
            clear hd hE hS hsp him
            go_wp2_with (fail)
            refine bodyPost_ret (results_cell_tmp rfl _ _ _ _ _ _ rfl (set6 _ _ _ _ _ _ Hk4.out) Tryd.underlying25 rfl (by kernel_rfl)) rfl ?_
            have hU := upd6 (W := w3) (g := w.heap.size) (.int .i64 tx) (.int .i64 nb) (.int .i64 ng) (.int .i64 now) (.slice an nodes.length cn) (.slice al leases.length cl)
            exact ⟨.inl ⟨⟨tx, nb, ng, now, nodes, leases, .slice an nodes.length cn, .slice al leases.length cl⟩, rfl, Hd.out.1, Hd.out.2, ((HX.out.below (HB4.out)).upd hU (fun i hi => by show i < wr.heap.size; omega)).up (Nat.le_of_lt hsz0), ownL_up (ownL_upd (ownL_below HL.out HB4.out) hU (fun i hi => by show i < wr.heap.size; omega)) (Nat.le_of_lt hsz0), Hsp.out⟩, below6 _ _ _ _ _ _ HB3.out (Nat.le_refl _)⟩
          · have hd := dec_no Hall.out (.inr ⟨_, Hrd.out, fun h => him (by rw [← h.2, image_pur])⟩)
            have q : ((mk (imageB ⟨tx, nb, ng, now, nodes, leases, .slice an nodes.length cn, .slice al leases.length cl⟩)).toList == (mk B).toList) = false := by
              rw [tl_bs, tl_bs, bs_mk, bs_mk]; simpa using him
            have q2 : ((mk (imageB ⟨tx, nb, ng, now, nodes, leases, .slice an nodes.length cn, .slice al leases.length cl⟩)).toList != (mk B).toList) = true := by
              rw [tl_bs, tl_bs, bs_mk, bs_mk]; simpa using him
            have Hd := Lib.hid hd
            clear hd hE hS hsp him
            generalize imageB ⟨tx, nb, ng, now, nodes, leases, .slice an nodes.length cn, .slice al leases.length cl⟩ = S at *
            go_wp2_with (fail)
            refine bodyPost_ret (results_cell_tmp rfl _ _ _ _ _ _ rfl (set6 _ _ _ _ _ _ Hk4.out) Tryd.underlying25 rfl (by kernel_rfl)) rfl ?_
            exact ⟨.inr ⟨Hd.out.1, by rw [Hd.out.2]; decide, by rw [Hd.out.2]; rfl⟩, below6 _ _ _ _ _ _ HB3.out (Nat.le_refl _)⟩
      · subst he
        have hd := dec_no Hall.out (.inl hno)
        obtain ⟨an, nn, cn, hv1⟩ := hv1
        obtain ⟨al, nl, cl, hv2⟩ := hv2
        rcases s with ⟨tx, nb, ng, now, nodes, leases, vn, vl⟩
        simp only at hv1 hv2
        subst hv1 hv2
        have hs0 := lt_of_block Hkr.out
        have hbw2 : Below w.heap.size w w2 := Hbw.out.trans (hb2.mono (by omega))
        have hk2 := (hb2.block w.heap.size hs0).trans Hkr.out
        have hlt2 := hb2.size
        obtain ⟨q0, q1, q2, q3, q4, q5⟩ := cells6 hk2
        have hz := free_all hk2
        have hs2 : w.heap.size < w2.heap.size := by omega
        have hk6 := set6 (.int .i64 0) (.int .i64 0) (.int .i64 0) (.int .i64 0) (.slice none 0 0) (.slice none 0 0) hk2
        have hb6 := below6 (.int .i64 0) (.int .i64 0) (.int .i64 0) (.int .i64 0) (.slice none 0 0) (.slice none 0 0) hbw2 (Nat.le_refl w.heap.size)
        have hk7 := fun o => (((Below.refl _ _).alloc (Nat.le_refl _) o).block w.heap.size (lt_of_block hk6)).trans hk6
        have hb7 := fun o => hb6.alloc hb6.size o
        have Hd := Lib.hid hd; have Hk7 := Lib.hid hk7; have Hb7 := Lib.hid hb7
        clear hd hk2 hbw2 hno hb2 hk6 hb6 hk7 hb7
        rw [spC]
        go_wp2_with (fail)
        refine bodyPost_ret (results_cell_tmp rfl _ _ _ _ _ _ rfl (Hk7.out _) Tryd.underlying25 rfl (by kernel_rfl)) rfl ?_
        exact ⟨.inr ⟨Hd.out.1, by rw [Hd.out.2]; decide, by rw [Hd.out.2]; rfl⟩, Hb7.out _⟩
    · have he := mk_ne_empty hr
      have hopen : ∀ W, Calls Tryd.prog 20 #[.string (mk r)] W fun e w' => e = .returned (.tuple #[.string (mk (openT r).1), .string (mk (openT r).2), .int .i64 (openE r)]) ∧ Below W.heap.size W w' := fun W => by
        have h := Wire.open_calls W (mk r) (by rw [Path.mk_size]; omega)
        rw [bs_mk] at h
        exact h
      have Hopen := Lib.hid hopen
      clear hopen
      by_cases hE : openE r = 0
      · have hlt := open_lt hE
        have hfm := (open_form hE).2
        have hnx := all_next hr hE Hop.out
        have hEb : (openE r == 0) = true := by rw [hE]; rfl
        have hEn : (openE r != 0) = false := by rw [hE]; rfl
        have hqn : ql.length ≤ 600000 := by omega
        have Hnx := Lib.hid hnx; have Hfm := Lib.hid hfm
        clear hnx hfm hr hE
        generalize hE2 : openE r = E at *
        generalize hs1 : (openT r).1 = s1 at *
        generalize hr1 : (openT r).2 = r1 at *
        clear hE2 hs1 hr1
        go_wp2_with (fail)
        refine (Hopen.out wr).mono ?_
        rintro e w2 ⟨rfl, hb2⟩
        have hOw : w2.ownsRow 0 9 1 va ql.length (flatS ql) := (Quota.ownS_below HO.out hb2).own
        have hB2 := Hb1.out.trans (hb2.mono hszw)
        have HOw := Lib.hid hOw; have HB2 := Lib.hid hB2
        clear hOw hB2 hb2 Hopen
        go_wp2_with (at_builtin; (with_reducible refine Path.etS.wpList1 (n := ql.length) (HOw.out.alloc _) (heap_alloc_new _ _) rfl (by simp [Value.oneCell']) (by omega) (by unfold maxLen; omega) rfl (.tmp 26) (.tmp 28) rfl rfl rfl ?_); intro g1 cap1 w8 hown1 hgrow hat hlt1)
        go_roundw
        case rel =>
          refine ⟨_, _, _, ⟨ql ++ [mk s1], r1, rfl, ⟨?_, ?_⟩, ?_, ?_, ?_, ?_⟩, rfl, rfl, rfl⟩
          · rw [Path.flatS_snoc, List.length_append]; exact hown1
          · intro g hg
            cases hg
            show (w.alloc (.cells #[.int .i64 0, .int .i64 0, .int .i64 0, .int .i64 0, .slice none 0 0, .slice none 0 0] 25 (0, 0))).heap.size ≤ g1
            rcases hat with e | e
            · exact HO.out.new _ e
            · have := HB2.out.size; simp at e this ⊢; omega
          · rw [List.map_append, List.map_singleton, bs_mk]; exact Hnx.out
          · rw [List.length_append, List.length_singleton]; omega
          · intro p hp
            rcases List.mem_append.1 hp with hp | hp
            · exact Hql.out p hp
            · rw [List.mem_singleton] at hp; subst hp; rw [bs_mk]; exact Hfm.out
          · have hf := (HB2.out.alloc HB2.out.size (.cells #[.string (mk s1)] 9 (0, 0))).grown hgrow (by have := HB2.out.size; simp at this ⊢; omega) (fun g hg => HO.out.new g hg)
            simp only [World.size_alloc] at hf
            exact hf
        case measure => rw [str_mk, str_mk]; omega
      · have hbad := all_stop hr hE Hop.out
        have hd := dec_bad (b := B) (by rw [hbad]; exact hE)
        rw [hbad] at hd
        have hEb : (openE r == 0) = false := by simpa using hE
        have hEn : (openE r != 0) = true := by simpa using hE
        have hs2 : ∀ W, Below wr.heap.size wr W → W.heap[w.heap.size]? = some (.cells #[.int .i64 0, .int .i64 0, .int .i64 0, .int .i64 0, .slice none 0 0, .slice none 0 0] 25 (0, 0)) := fun W hW => (hW.block _ hsz0).trans Hkr.out
        have Hd := Lib.hid hd; have HE := Lib.hid hE; have Hs2 := Lib.hid hs2
        clear hbad hd hr hE hs2
        generalize hE2 : openE r = E at *
        generalize (openT r).1 = s1 at *
        generalize (openT r).2 = r1 at *
        clear hE2
        go_wp2_with (fail)
        refine (Hopen.out wr).mono ?_
        rintro e w2 ⟨rfl, hb2⟩
        have hk2 := Hs2.out w2 hb2
        obtain ⟨q0, q1, q2, q3, q4, q5⟩ := cells6 hk2
        have hz := free_all hk2
        have HB2 := Lib.hid (Hbw.out.trans (hb2.mono (Nat.le_of_lt hsz0))); have Hk2 := Lib.hid hk2
        clear hb2 hk2 Hopen
        go_wp2_with (fail)
        refine bodyPost_ret (results_cell_tmp rfl _ _ _ _ _ _ rfl (set6 _ _ _ _ _ _ Hk2.out) Tryd.underlying25 rfl (by kernel_rfl)) rfl ?_
        exact ⟨.inr ⟨Hd.out.1, by rw [Hd.out.2]; exact HE.out, by rw [Hd.out.2]; rfl⟩, below6 _ _ _ _ _ _ HB2.out (Nat.le_refl _)⟩
end Go.Proofs.YtgpddngbccecfaaDoor.Image
