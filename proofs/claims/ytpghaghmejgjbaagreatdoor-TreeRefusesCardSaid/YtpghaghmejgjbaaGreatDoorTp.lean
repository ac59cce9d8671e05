/- Trees: tree.good, tree.List. -/
import Derived.Test.YtpghaghmejgjbaaGreatDoorTo
namespace Go.Proofs.YtpghaghmejgjbaaGreatDoor.Tree
open Go.RowKit
open Path (Bs bs mk bs_mk mk_bs tl_bs splitE splitL MaxC parD parE parN OwnS flatS flatS_map flatS_snoc etS rd_cellsS)
set_option linter.unusedSimpArgs false
set_option linter.unusedVariables false

theorem good_calls (w : World) (p : ByteArray) (hM : MaxC w) :
    Calls Tryz.prog 32 #[.string p] w fun e w' => e = .returned (.bool (decide (splitE (bs p) = 0))) ∧ Below w.heap.size w w' := by
  have h1 := Path.split_calls w p hM
  have hb : ((splitE (bs p)) == 0) = decide (splitE (bs p) = 0) := rfl
  generalize splitE (bs p) = E at *
  generalize (splitL (bs p)).map mk = L at *
  by_cases h : E = 0
  all_goals
    first
    | have c1 : decide (E = 0) = true := decide_eq_true h
    | have c1 : decide (E = 0) = false := decide_eq_false h
    rw [c1] at hb ⊢
    clear hM h
    go_enter Tryz.func32, Tryz.ntmps32
    go_wp2_with (fail)
    refine h1.mono ?_
    rintro e w1 ⟨v1, rfl, hO, hb1⟩
    clear hO
    go_wp2_with (fail)
    go_ret
    exact ⟨rfl, hb1⟩

def listE (l : List Nd) (p : Bs) : Int := if rightT l = true ∧ splitE p = 0 then (match l.find? (fun x => bs x.path == p) with
  | none => 5
  | some x => if x.dir = true then 0 else 7) else 1
def nameOf (x : Nd) : ByteArray := mk (parN (bs x.path))
def listN (l : List Nd) (p : Bs) : List ByteArray := if listE l p = 0 then (childL l p).map nameOf else []
def preN (l : List Nd) (p : Bs) (k : Nat) : List ByteArray := (((l.drop 1).take k).filter fun x => parD (bs x.path) == p).map nameOf
theorem pre_no {l : List Nd} {p : Bs} {k : Nat} {x : Nd} (hx : (l.drop 1)[k]? = some x) (h : (parD (bs x.path) == p) = false) : preN l p (k + 1) = preN l p k := by
  rw [preN, List.take_add_one, hx, List.filter_append]
  simp [h, preN]
theorem pre_yes {l : List Nd} {p : Bs} {k : Nat} {x : Nd} (hx : (l.drop 1)[k]? = some x) (h : (parD (bs x.path) == p) = true) : preN l p (k + 1) = preN l p k ++ [nameOf x] := by
  rw [preN, List.take_add_one, hx, List.filter_append]
  simp [h, preN]
theorem pre_len (l : List Nd) (p : Bs) (k : Nat) : (preN l p k).length ≤ k := by
  rw [preN, List.length_map]
  exact Nat.le_trans (List.length_filter_le _ _) (List.length_take_le _ _)
theorem pre_end (l : List Nd) (p : Bs) : preN l p (l.drop 1).length = (childL l p).map nameOf := by rw [preN, List.take_length]; rfl
theorem names_rise {l : List Nd} (h : rightT l = true) (p : Bs) : (((childL l p).map nameOf).map bs).Pairwise fun x y => ltB x y = true := by
  rw [List.map_map, List.pairwise_map]
  have hp : (childL l p).Pairwise fun x y => ltB (bs x.path) (bs y.path) = true := ((right_rises h).sublist (List.drop_sublist 1 l)).sublist List.filter_sublist
  refine hp.imp_of_mem fun {a b} ha hb hab => ?_
  have form : ∀ c ∈ childL l p, bs c.path = inD p ++ parN (bs c.path) := fun c hc => by
    obtain ⟨h1, h2⟩ := List.mem_filter.1 hc
    have := (path_form (right_splits h (tail_in h1)) (tail_ne h h1)).1
    rw [beq_iff_eq] at h2
    rwa [h2] at this
  rw [form a ha, form b hb, lt_pre] at hab
  simpa [nameOf, bs_mk] using hab

set_option maxHeartbeats 4000000 in
theorem list_no (w : World) (v : Value) (l : List Nd) (p : ByteArray) (h : RdN w v l) (hn : l.length ≤ 8796093022208) (hM : MaxC w) (hE : listE l (bs p) ≠ 0) :
    Calls Tryz.prog 10 #[v, .string p] w fun e w' => e = .returned (.tuple #[.slice none 0 0, .int .i64 (listE l (bs p))]) ∧ Below w.heap.size w w' := by
  have h1 := right_calls w v l h hn hM
  have h2 : ∀ W, Below w.heap.size w W → _ := fun W hW => good_calls W p (hM.below hW)
  have hat := fun W (hW : Below w.heap.size w W) hs => at_calls W v l p (h.below hW) hs hn
  have hri := fun h => right_rises (l := l) h
  obtain ⟨ao, cap, rfl, _, _, hcell⟩ := rd_cellsN h.rd
  have hfi := has_find p l
  have hix := fun x hs => idx_has (key := p) (x := x) (l := l) hs
  rw [listE] at hE ⊢
  cases hr : rightT l
  · rw [hr] at h1
    clear hE hM h hcell hat hri hfi hix h2
    simp only [hr, Bool.false_eq_true, false_and, if_false]
    clear hr
    go_enter Tryz.func10, Tryz.ntmps10
    go_wp2_with (fail)
    refine h1.mono ?_
    rintro e w1 ⟨rfl, hb1⟩
    go_wp2_with (fail)
    go_ret2
    exact ⟨rfl, hb1⟩
  · rw [hr] at h1
    simp only [hr, true_and] at hE ⊢
    by_cases hs : splitE (bs p) = 0
    · rw [if_pos hs] at hE ⊢
      rw [decide_eq_true hs] at h2
      have hat1 := fun W hW => hat W hW (hri hr)
      have hix1 := fun x => hix x (hri hr)
      have Hcell := Lib.hid hcell
      clear hat hix hri hM h hs hr hcell
      cases hf : l.find? (fun x => bs x.path == bs p) with
      | none =>
        rw [hf] at hE hfi
        simp only [Option.isSome_none] at hfi
        have Hat := Lib.hid hat1; have H2 := Lib.hid h2; have Hfi := Lib.hid hfi
        clear hf hix1 hat1 h2 hfi hE
        go_enter Tryz.func10, Tryz.ntmps10
        go_wp2_with (fail)
        refine h1.mono ?_
        rintro e w1 ⟨rfl, hb1⟩
        clear h1
        go_wp2_with (fail)
        refine (H2.out w1 hb1).mono ?_
        rintro e w2 ⟨rfl, hb2⟩
        have hB2 := hb1.trans (hb2.mono hb1.size)
        have ha := Hat.out w2 hB2
        rw [Hfi.out] at ha
        go_wp2_with (fail)
        refine ha.mono ?_
        rintro e w3 ⟨rfl, hb3⟩
        clear ha
        go_wp2_with (fail)
        go_ret2
        exact ⟨rfl, hB2.trans (hb3.mono hB2.size)⟩
      | some x =>
        rw [hf] at hE hfi
        simp only [Option.isSome_some] at hfi
        have hx := hix1 x hf
        have hd : x.dir = false := by
          cases hd : x.dir
          · rfl
          · simp [hd] at hE
        have hxl := (List.getElem?_eq_some_iff.1 hx).1
        generalize idxN p l = i at *
        have Hat := Lib.hid hat1; have H2 := Lib.hid h2; have Hfi := Lib.hid hfi; have Hx := Lib.hid hx
        clear hf hix1 hat1 h2 hfi hE hx
        show Calls _ _ _ w fun e w' => e = .returned (.tuple #[.slice none 0 0, .int .i64 (if x.dir = true then 0 else 7)]) ∧ Below w.heap.size w w'
        rw [hd, if_neg (by simp)]
        have Hd := Lib.hid hd
        clear hd
        go_enter Tryz.func10, Tryz.ntmps10
        go_wp2_with (fail)
        refine h1.mono ?_
        rintro e w1 ⟨rfl, hb1⟩
        clear h1
        go_wp2_with (fail)
        refine (H2.out w1 hb1).mono ?_
        rintro e w2 ⟨rfl, hb2⟩
        have hB2 := hb1.trans (hb2.mono hb1.size)
        have ha := Hat.out w2 hB2
        rw [Hfi.out] at ha
        go_wp2_with (fail)
        refine ha.mono ?_
        rintro e w3 ⟨rfl, hb3⟩
        clear ha
        have hB3 := hB2.trans (hb3.mono hB2.size)
        obtain ⟨b, off, rfl, hbb, c0, c1, c2, c3, c4⟩ := Hcell.out w3 hB3 i x Hx.out
        rw [Hd.out] at c1
        go_wp2_with (fail)
        go_ret2
        exact ⟨rfl, hB3⟩
    · rw [if_neg hs]
      rw [decide_eq_false hs] at h2
      have H2 := Lib.hid h2
      clear hat hix hri hM h hs hr hcell hE hfi h2
      go_enter Tryz.func10, Tryz.ntmps10
      go_wp2_with (fail)
      refine h1.mono ?_
      rintro e w1 ⟨rfl, hb1⟩
      clear h1
      go_wp2_with (fail)
      refine (H2.out w1 hb1).mono ?_
      rintro e w2 ⟨rfl, hb2⟩
      go_wp2_with (fail)
      go_ret2
      exact ⟨rfl, hb1.trans (hb2.mono hb1.size)⟩
theorem ownS_alloc {w w' : World} {v : Value} {q : List ByteArray} (h : OwnS w w' v q) (o : Obj) : OwnS w (w'.alloc o) v q := ⟨h.own.alloc o, h.new⟩
theorem ownS_below {w w' w'' : World} {v : Value} {q : List ByteArray} (h : OwnS w w' v q) (hb : Below w'.heap.size w' w'') : OwnS w w'' v q :=
  ⟨below_ownsRow hb h.own (fun g hg => own_ltN h.own g hg), h.new⟩
/-- The nodes behind the root. -/
theorem sub_cells {w : World} {b off n cap : Nat} {l : List Nd} (h : RdN w (.slice (some ⟨b, off, none⟩) n cap) l) (hk : 1 ≤ n) : ∃ o c, (cap = 1 ∧ n = 1 ∧ o = off ∧ c = 0 ∨ 1 < cap ∧ o = off + 5 ∧ c = cap - 1) ∧ RdN w (.slice (some ⟨b, o, none⟩) (n - 1) c) (l.drop 1) := by
  have hbl : ∀ x ∈ l.drop 1, Rd w 3 encB x.bv x.blocks := fun x hx => h.bl x (List.mem_of_mem_drop hx)
  obtain ⟨ao, cap', hv, hc, _, _⟩ := h.rd
  simp only [Value.slice.injEq] at hv
  obtain ⟨_, rfl, rfl⟩ := hv
  by_cases hc1 : cap = 1
  · have hl1 : l.length = 1 := by omega
    have hd0 : l.drop 1 = [] := List.drop_eq_nil_of_le (by omega)
    refine ⟨off, 0, .inl ⟨hc1, hl1, rfl, rfl⟩, ?_, hbl⟩
    rw [hd0, hl1]
    exact ⟨_, _, rfl, Nat.le_refl _, Nat.zero_le _, fun i x hx => by cases hx⟩
  · exact ⟨off + 5, cap - 1, .inr ⟨by omega, rfl, rfl⟩, rd_dropN h.rd hk, hbl⟩

set_option maxRecDepth 4000 in
set_option maxHeartbeats 8000000 in
theorem list_yes (w : World) (v : Value) (l : List Nd) (p : ByteArray) (h : RdN w v l) (hn : l.length ≤ 8796093022208) (hM : MaxC w) (hE : listE l (bs p) = 0) :
    Calls Tryz.prog 10 #[v, .string p] w fun e w' => (∃ v', e = .returned (.tuple #[v', .int .i64 0]) ∧ OwnS w w' v' ((childL l (bs p)).map nameOf)) ∧ Below w.heap.size w w' := by
  rw [listE] at hE
  have hcd : rightT l = true ∧ splitE (bs p) = 0 := by
    by_cases hc : rightT l = true ∧ splitE (bs p) = 0
    · exact hc
    · rw [if_neg hc] at hE; cases hE
  rw [if_pos hcd] at hE
  obtain ⟨hr, hs⟩ := hcd
  obtain ⟨x0, hf, hd0⟩ : ∃ x, l.find? (fun x => bs x.path == bs p) = some x ∧ x.dir = true := by
    cases hf : l.find? (fun x => bs x.path == bs p) with
    | none => rw [hf] at hE; cases hE
    | some x =>
      rw [hf] at hE
      refine ⟨x, rfl, ?_⟩
      cases hd : x.dir
      · simp [hd] at hE
      · rfl
  have hri := right_rises hr
  have h1 := right_calls w v l h hn hM
  rw [hr] at h1
  have h2 : ∀ W, Below w.heap.size w W → _ := fun W hW => good_calls W p (hM.below hW)
  rw [decide_eq_true hs] at h2
  have hat := fun W (hW : Below w.heap.size w W) => at_calls W v l p (h.below hW) hri hn
  have hfi : hasN p l = true := by rw [has_find, hf]; rfl
  rw [hfi] at hat
  have hx := idx_has (key := p) hri hf
  have hpar : ∀ W, Below w.heap.size w W → ∀ q, Calls Tryz.prog 34 #[.string q] W (Path.ParPost W (parD (bs q)) (parN (bs q)) (parE (bs q))) := fun W hW q => Path.parent_calls W q (hM.below hW)
  have hpos : 1 ≤ l.length := by
    obtain ⟨x, t, rfl, _⟩ := right_head hr
    simp
  have h60 : l.length ≤ 60 := by
    simp only [rightT, rightA, Bool.and_eq_true] at hr
    cases l with
    | nil => simp
    | cons x t =>
      simp only [headOk, Bool.and_eq_true, decide_eq_true_eq] at hr
      exact hr.1.1.1.1
  have hrise := names_rise hr (bs p)
  have hreN := fun W (hW : Below w.heap.size w W) => h.below hW
  have hbvs : ∀ x ∈ l.drop 1, ∃ ao cap, x.bv = .slice ao x.blocks.length cap := fun x hx => bv_slice (h.bl x (List.mem_of_mem_drop hx))
  obtain ⟨ao, cap, rfl, hcap, _, hcell⟩ := rd_cellsN h.rd
  have hil := (List.getElem?_eq_some_iff.1 hx).1
  obtain ⟨b, off, rfl, hbb, _⟩ := hcell w (Below.refl _ _) _ x0 hx
  generalize idxN p l = i at *
  have Hcell := Lib.hid hcell; have Hx := Lib.hid hx; have H2 := Lib.hid h2; have Hat := Lib.hid hat; have Hpar := Lib.hid hpar; have Hrise := Lib.hid hrise; have HreN := Lib.hid hreN; have Hd0 := Lib.hid hd0; have Hbvs := Lib.hid hbvs
  have hsub := sub_cells h hpos
  clear hcell hx h2 hat hpar hrise hreN hd0 hf hri hr hs hE hfi h hM hbvs
  obtain ⟨o, c, hoc, hsubr⟩ := hsub
  obtain ⟨am, cm, hv', hcm, _, hcs⟩ := rd_cellsN hsubr.rd
  simp only [Value.slice.injEq] at hv'
  obtain ⟨rfl, -, rfl⟩ := hv'
  have Hcs := Lib.hid hcs
  have hsl : (l.drop 1).length = l.length - 1 := List.length_drop
  have Hsl := Lib.hid hsl
  clear hcs hsubr hsl
  generalize hlm : l.length = lm at *
  obtain ⟨m, rfl⟩ : ∃ m, lm = m + 1 := ⟨lm - 1, by omega⟩
  rw [Nat.add_sub_cancel] at Hsl
  have Hlm := Lib.hid hlm
  clear hlm
  go_enter Tryz.func10, Tryz.ntmps10
  go_wp2_with (fail)
  refine h1.mono ?_
  rintro e w1 ⟨rfl, hb1⟩
  clear h1
  go_wp2_with (fail)
  refine (H2.out w1 hb1).mono ?_
  rintro e w2 ⟨rfl, hb2⟩
  have hB2 := hb1.trans (hb2.mono hb1.size)
  go_wp2_with (fail)
  refine (Hat.out w2 hB2).mono ?_
  rintro e w3 ⟨rfl, hb3⟩
  have hB3 := hB2.trans (hb3.mono hB2.size)
  obtain ⟨b', off', he, _, d0, d1, d2, d3, d4⟩ := Hcell.out w3 hB3 i x0 Hx.out
  simp only [Option.some.injEq, Addr.mk.injEq, and_true] at he
  obtain ⟨rfl, rfl⟩ := he
  rw [Hd0.out] at d1
  clear d0 d2 d3 d4
  rcases hoc with ⟨rfl, hl1, rfl, rfl⟩ | ⟨hc1, rfl, rfl⟩
  focus
    obtain rfl : m = 0 := by omega
    have he : (childL l (bs p)).map nameOf = [] := by rw [← pre_end, Hsl.out]; rfl
    have hs := fun W (hb : Below w.heap.size w W) => sort_calls w W (.slice none 0 0) [] (OwnS.nil _ _) List.Pairwise.nil (by simp) hb
    have Hs := Lib.hid hs; have He := Lib.hid he
    clear hl1 he hs
    go_wp2_with (fail)
    clear d1
    go_loopw [8, 41] (fun vo vk wr => vk = .int .i64 0 ∧ vo = .slice none 0 0 ∧ wr = w3) (fun _ _ _ => 0)
    case atStart => exact ⟨rfl, rfl, rfl⟩
    case round =>
      obtain ⟨rfl, rfl, rfl⟩ := hrel
      go_wp2_with (fail)
      refine (Hs.out _ hB3).mono ?_
      rintro e w4 ⟨rfl, hO4, hb4⟩
      go_wp2_with (fail)
      go_ret2
      exact ⟨⟨_, rfl, by rw [He.out]; exact hO4⟩, hb4⟩
  focus
    go_wp2_with (fail)
    clear d1
    go_loopw [8, 41] (fun vo vk wr => ∃ k : Nat, vk = .int .i64 k ∧ k ≤ m ∧ OwnS w wr vo (preN l (bs p) k) ∧ Below w.heap.size w wr) (fun _ vk _ => m - (intOf vk).toNat)
    case atStart => exact ⟨0, rfl, Nat.zero_le _, OwnS.nil _ _, hB3⟩
    case round =>
      obtain ⟨k, rfl, hk, hO, hb⟩ := hrel
      have HO := Lib.hid hO
      have hsz := hb.size
      have hlen := pre_len l (bs p) k
      by_cases hlt : k < m
      · obtain ⟨x, hx⟩ : ∃ x, (l.drop 1)[k]? = some x := ⟨(l.drop 1)[k]'(by rw [Hsl.out]; omega), by rw [List.getElem?_eq_getElem]⟩
        obtain ⟨b', off', he, _, d0, d1, d2, d3, d4⟩ := Hcs.out wr hb k x hx
        simp only [Option.some.injEq, Addr.mk.injEq, and_true] at he
        obtain ⟨rfl, rfl⟩ := he
        obtain ⟨ax, cx, hbvx⟩ := Hbvs.out x (List.mem_of_getElem? hx)
        rw [hbvx] at d3
        have hA : Below w.heap.size w (wr.alloc (.cells #[.string x.path, .bool x.dir, .int .i64 x.quota, .slice ax x.blocks.length cx, .int .i64 x.writer] 25 (0, 0))) := hb.alloc hsz _
        have hp := Hpar.out (wr.alloc (.cells #[.string x.path, .bool x.dir, .int .i64 x.quota, .slice ax x.blocks.length cx, .int .i64 x.writer] 25 (0, 0))) hA x.path
        have Hx := Lib.hid hx
        clear hx hbvx hO
        cases hq : (parD (bs x.path) == bs p)
        · have hq' : ((mk (parD (bs x.path))).toList == p.toList) = false := by rw [tl_bs, tl_bs, bs_mk]; exact hq
          have Hnx := Lib.hid (pre_no Hx.out hq)
          clear hq
          go_wp2_with (fail)
          refine hp.mono ?_
          rintro e w4 ⟨rfl, hb4⟩
          have hb4' := hA.trans (hb4.mono hA.size)
          have hO4 := ownS_below (ownS_alloc HO.out (.cells #[.string x.path, .bool x.dir, .int .i64 x.quota, .slice ax x.blocks.length cx, .int .i64 x.writer] 25 (0, 0))) hb4
          go_wp2_with (fail)
          go_roundw
          case rel => exact ⟨k + 1, by go_num, by omega, by rw [Hnx.out]; exact hO4, hb4'⟩
          case measure => simp [intOf]; omega
        · have hq' : ((mk (parD (bs x.path))).toList == p.toList) = true := by rw [tl_bs, tl_bs, bs_mk]; exact hq
          have Hnx := Lib.hid (pre_yes Hx.out hq)
          have hown := HO.out.own
          generalize hw : (preN l (bs p) k).length = n1 at *
          have HW := Lib.hid (hown.alloc (.cells #[.string x.path, .bool x.dir, .int .i64 x.quota, .slice ax x.blocks.length cx, .int .i64 x.writer] 25 (0, 0))); have Hw := Lib.hid hw
          clear hq hown hw
          go_wp2_with (fail)
          refine hp.mono ?_
          rintro e w4 ⟨rfl, hb4⟩
          have hb4' := hA.trans (hb4.mono hA.size)
          have hO4 := below_ownsRow hb4 HW.out (fun g hg => own_ltN HW.out g hg)
          have HO4 := Lib.hid hO4
          clear hO4 hp
          go_wp2_with (at_builtin; (with_reducible refine etS.wpList1 (HO4.out.alloc _) (heap_alloc_new _ _) rfl (by simp [Value.oneCell']) (by omega) (by unfold maxLen; omega) rfl (.tmp 55) (.tmp 57) rfl rfl rfl ?_); intro g1 cap1 w5 hown1 hgrow hat hlt1)
          go_roundw
          case rel =>
            refine ⟨k + 1, by go_num, by omega, ?_, (hb4'.alloc hb4'.size _).grown hgrow (by have := hb4'.size; simp; omega) (fun q hq => HO.out.new q hq)⟩
            rw [Hnx.out]
            refine ⟨?_, fun g hg => ?_⟩
            · rw [List.length_append, Hw.out, flatS_snoc]
              exact hown1
            · simp only [Value.ownBlock, Option.some.injEq] at hg
              subst hg
              rcases hat with h | h
              · exact HO.out.new _ h
              · have := hb4'.size; simp at h; omega
          case measure => simp [intOf]; omega
      · obtain rfl : k = m := by omega
        have hO' := hO
        have he : preN l (bs p) k = (childL l (bs p)).map nameOf := by rw [← pre_end, Hsl.out]
        rw [he] at hO' hlen
        have hs := sort_calls w wr _ _ hO' Hrise.out (by omega) hb
        have Hs := Lib.hid hs
        clear hO hO' he hs hlen
        go_wp2_with (fail)
        refine Hs.out.mono ?_
        rintro e w4 ⟨rfl, hO4, hb4⟩
        go_wp2_with (fail)
        go_ret2
        exact ⟨⟨_, rfl, hO4⟩, hb4⟩
theorem list_calls (w : World) (v : Value) (l : List Nd) (p : ByteArray) (h : RdN w v l) (hn : l.length ≤ 8796093022208) (hM : MaxC w) :
    Calls Tryz.prog 10 #[v, .string p] w fun e w' => (∃ v', e = .returned (.tuple #[v', .int .i64 (listE l (bs p))]) ∧ OwnS w w' v' (listN l (bs p))) ∧ Below w.heap.size w w' := by
  rw [listN]
  by_cases hE : listE l (bs p) = 0
  · rw [hE, if_pos rfl]; exact list_yes w v l p h hn hM hE
  · rw [if_neg hE]
    refine (list_no w v l p h hn hM hE).mono ?_
    rintro e w' ⟨rfl, hb⟩
    exact ⟨⟨_, rfl, OwnS.nil _ _⟩, hb⟩
end Go.Proofs.YtpghaghmejgjbaaGreatDoor.Tree
