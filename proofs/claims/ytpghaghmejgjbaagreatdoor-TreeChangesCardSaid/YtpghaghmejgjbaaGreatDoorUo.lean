/- Trees (chapter 7): the document's put. -/
import Derived.Test.YtpghaghmejgjbaaGreatDoorUn
namespace Go.Proofs.YtpghaghmejgjbaaGreatDoor.Tree
open Go.RowKit
open Path (Bs bs mk bs_mk mk_bs tl_bs splitE splitL MaxC parD parE parN)
set_option linter.unusedSimpArgs false
set_option linter.unusedVariables false

theorem ins_at {n : Nd} : ∀ {l : List Nd} {k : Nat}, k ≤ l.length → Sorted l → (∀ y ∈ l.drop k, ltB (bs n.path) (bs y.path) = true) → (∀ j y, k = j + 1 → l[j]? = some y → ltB (bs n.path) (bs y.path) = false) → ins n l = l.take k ++ n :: l.drop k
  | [], k, _, _, _, _ => by simp [ins]
  | y :: t, 0, _, hs, hd, _ => by rw [ins, if_pos (hd y (by simp))]; rfl
  | y :: t, k + 1, hk, hs, hd, hl => by
    have hs' := List.pairwise_cons.1 hs
    have hy : ltB (bs n.path) (bs y.path) = false := by
      rcases k with _ | j
      · exact hl 0 y rfl rfl
      · cases hj : t[j]? with
        | none =>
          have hlen : t.length ≤ j := List.getElem?_eq_none_iff.1 hj
          simp only [List.length_cons] at hk
          omega
        | some z =>
          have hz := hl (j + 1) z rfl (by simpa using hj)
          have hzy := hs'.1 z (List.mem_of_getElem? hj)
          cases hn : ltB (bs n.path) (bs y.path)
          · rfl
          · rcases lt_tri (bs y.path) (bs z.path) with h | h | h
            · rw [lt_trans _ _ _ hn h] at hz; cases hz
            · rw [← h, hn] at hz; cases hz
            · rw [h] at hzy; cases hzy
    rw [ins, if_neg (by rw [hy]; simp), List.take_succ_cons, List.drop_succ_cons, List.cons_append, ins_at (k := k) (by simpa using hk) hs'.2 (by simpa using hd) (fun j z hk hz => hl (j + 1) z (by omega) (by simpa using hz))]
/-- The row that put tells. -/
def PutPost (w0 w : World) (l : List Nd) (e : Ending) (w' : World) : Prop := (∃ v' q, e = .returned v' ∧ OwnX w0 w' v' q ∧ q.map pur = l.map pur) ∧ Below w.heap.size w w'
theorem ownx_form {w0 w : World} {v : Value} {l : List Nd} (h : OwnX w0 w v l) : (v = .slice none 0 0 ∧ l = []) ∨ ∃ g cap, v = .slice (some ⟨g, 0, none⟩) l.length cap ∧ l.length ≤ cap ∧ g < w.heap.size ∧ ∀ W, Below w.heap.size w W → ∀ j u, (flatN l)[j]? = some u → W.cell? ⟨g, j, none⟩ = some u := by
  have hlt := own_ltN h.own
  rcases h.own.2 with ⟨hv, hx⟩ | ⟨g, cap, cur, hv, _, hg, hn, _, hcs, ht⟩
  · exact .inl ⟨hv, by cases l with | nil => rfl | cons y t => cases hx⟩
  · refine .inr ⟨g, cap, hv, hn, lt_of_block hg, fun W hW j u hu => ?_⟩
    rw [hW.cell (p := ⟨g, j, none⟩) (lt_of_block hg), cell_of_blk hg, ← Array.getElem?_toList]
    have hj := (List.getElem?_eq_some_iff.1 hu).1
    have : (cur.toList.take (l.length * 5))[j]? = some u := by rw [ht]; exact hu
    rw [List.getElem?_take] at this
    split at this
    · exact this
    · cases this
theorem flat_at {l : List Nd} {k : Nat} {x : Nd} (hx : l[k]? = some x) : (flatN l)[k * 5]? = some (.string x.path) := by
  have := flat_get encN 5 encN_len l k 0 x hx (by decide)
  exact this
theorem cells_drop {W : World} {g : Nat} {l : List Nd} (k : Nat) (h : ∀ j u, (flatN l)[j]? = some u → W.cell? ⟨g, j, none⟩ = some u) : ∀ j u, (flatN (l.drop k))[j]? = some u → W.cell? ((⟨g, k * 5, none⟩ : Addr).add j) = some u := by
  intro j u hu
  rw [Addr.add_lit]
  refine h _ u ?_
  have e : flatN l = flatN (l.take k) ++ flatN (l.drop k) := by rw [flatN, flatN, flatN, ← List.flatMap_append, List.take_append_drop]
  have hj := (List.getElem?_eq_some_iff.1 hu).1
  rw [flatN_len, List.length_drop] at hj
  have hk : (flatN (l.take k)).length = k * 5 := by rw [flatN_len, List.length_take, Nat.min_eq_left (by omega)]
  rw [e, List.getElem?_append_right (by omega), hk, Nat.add_sub_cancel_left]
  exact hu
theorem cells_take {W : World} {g : Nat} {l : List Nd} (k : Nat) (h : ∀ j u, (flatN l)[j]? = some u → W.cell? ⟨g, j, none⟩ = some u) : ∀ j u, (flatN (l.take k))[j]? = some u → W.cell? ((⟨g, 0, none⟩ : Addr).add j) = some u := by
  intro j u hu
  rw [Addr.add_lit, Nat.zero_add]
  refine h _ u ?_
  have e : flatN l = flatN (l.take k) ++ flatN (l.drop k) := by rw [flatN, flatN, flatN, ← List.flatMap_append, List.take_append_drop]
  have hj := (List.getElem?_eq_some_iff.1 hu).1
  rw [e, List.getElem?_append_left hj]
  exact hu
theorem ownn_cap {w : World} {a : Option Addr} {n cap : Nat} {xs : List Value} (h : w.ownsRow 0 25 5 (.slice a n cap) n xs) : n ≤ cap := by
  obtain ⟨ao, c, hv, hc⟩ := own_slice h
  cases hv; exact hc
theorem put_mid {W w5 w6 w8 : World} {v5 : Value} {o : Obj} (grow5 : W.grownBy w5 none) (at5 : v5.ownBlock = none ∨ v5.ownBlock = some W.heap.size) (b6 : Below w5.heap.size w5 w6) (grow8 : (w6.alloc o).grownBy w8 v5.ownBlock) : Below W.heap.size W w8 := by
  have b5 := (Below.refl W.heap.size W).grown grow5 (Nat.le_refl _) (fun k hk => by cases hk)
  have B6 := b5.trans (b6.mono b5.size)
  refine (B6.alloc B6.size o).grown grow8 (by have := B6.size; simp; omega) (fun k hk => ?_)
  rcases at5 with h | h
  · rw [h] at hk; cases hk
  · rw [h] at hk; cases hk; exact Nat.le_refl _
theorem put_end {w0 W w5 w6 w8 : World} {l : List Nd} {x : Nd} {k g8 cap8 : Nat} {v v5 bv : Value} {o : Obj} (h0 : w0.heap.size ≤ W.heap.size) (hO : OwnX w0 W v l) (hk : k ≤ l.length)
    (own5 : w5.ownsRow 0 25 5 v5 k (flatN (l.take k))) (grow5 : W.grownBy w5 none) (at5 : v5.ownBlock = none ∨ v5.ownBlock = some W.heap.size) (ho6 : OwnB w5 w6 bv x.blocks) (b6 : Below w5.heap.size w5 w6)
    (own8 : w8.ownsRow 0 25 5 (.slice (some ⟨g8, 0, none⟩) (k + 1) cap8) (k + 1) (flatN (l.take k) ++ encN { x with bv := bv })) (grow8 : (w6.alloc o).grownBy w8 v5.ownBlock) (at8 : v5.ownBlock = some g8 ∨ g8 = (w6.alloc o).heap.size) :
    Below W.heap.size W w8 ∧ OwnX w0 w8 (.slice (some ⟨g8, 0, none⟩) (k + 1) cap8) (l.take k ++ [{ x with bv := bv }]) ∧ OwnX w0 w8 v l ∧ w0.heap.size ≤ w8.heap.size ∧ W.heap.size ≤ g8 := by
  have hm := put_mid grow5 at5 b6 grow8
  have hlen : (l.take k).length = k := by rw [List.length_take, Nat.min_eq_left hk]
  have b5 := (Below.refl W.heap.size W).grown grow5 (Nat.le_refl _) (fun k hk => by cases hk)
  have hO5 : OwnX w0 w5 v5 ([] ++ l.take k) := OwnX.join (q := []) (r := l.take k) (World.ownsRow_nil W 0 25 5) (fun y hy => by cases hy) (fun y hy => hO.bl y (List.mem_of_mem_take hy)) (fun g hg => by simp [Value.ownBlock] at hg) h0 (by rw [hlen, List.length_nil, Nat.zero_add]; exact own5) grow5 at5
  have hO6 := hO5.below b6
  have h05 := Nat.le_trans h0 b5.size
  have hs8 := OwnX.snoc (x := { x with bv := bv }) (g := g8) (cap := cap8) hO6 (ho6.up h05) (Nat.le_trans h05 b6.size) (by rw [List.nil_append, hlen]; exact own8) grow8 at8
  rw [List.nil_append, hlen] at hs8
  refine ⟨hm, hs8, hO.below hm, Nat.le_trans h0 hm.size, ?_⟩
  rcases at8 with h | h
  · rcases at5 with h' | h'
    · rw [h'] at h; cases h
    · rw [h'] at h; cases h; exact Nat.le_refl _
  · have := b5.size; have := b6.size; simp at h; omega
theorem put_fin {w0 W w8 w9 : World} {l : List Nd} {x : Nd} {k g8 cap8 : Nat} {v v9 : Value} (hk : k ≤ l.length)
    (H : Below W.heap.size W w8 ∧ OwnX w0 w8 (.slice (some ⟨g8, 0, none⟩) (k + 1) cap8) (l.take k ++ [x]) ∧ OwnX w0 w8 v l ∧ w0.heap.size ≤ w8.heap.size ∧ W.heap.size ≤ g8)
    (own9 : w9.ownsRow 0 25 5 v9 (k + 1 + (l.length - k)) (flatN (l.take k) ++ encN x ++ flatN (l.drop k))) (grow9 : w8.grownBy w9 (some g8)) (at9 : v9.ownBlock = some g8 ∨ v9.ownBlock = some w8.heap.size) :
    OwnX w0 w9 v9 (l.take k ++ x :: l.drop k) ∧ Below W.heap.size W w9 := by
  obtain ⟨hm, hs, hO, h0, hg⟩ := H
  refine ⟨?_, hm.grown grow9 hm.size (fun j hj => by cases hj; exact hg)⟩
  have e : l.take k ++ x :: l.drop k = (l.take k ++ [x]) ++ l.drop k := by simp
  rw [e]
  refine OwnX.join (v := .slice (some ⟨g8, 0, none⟩) (k + 1) cap8) hs.own hs.bl (fun y hy => hO.bl y (List.mem_of_mem_drop hy)) hs.new h0 ?_ grow9 at9
  have h1 : (l.take k ++ [x]).length = k + 1 := by rw [List.length_append, List.length_take, Nat.min_eq_left hk]; rfl
  rw [h1, List.length_drop, flatN_snoc]
  exact own9
set_option maxRecDepth 4000 in
set_option maxHeartbeats 8000000 in
theorem put_calls (w0 w : World) (v : Value) (l : List Nd) (x : Nd) (h : OwnX w0 w v l) (hs : Sorted l) (hl : l.length ≤ 1000000) (hx : Rd w 3 encB x.bv x.blocks) (hn : x.blocks.length ≤ 5864062014805) (h0 : w0.heap.size ≤ w.heap.size) :
    Calls Tryz.prog 57 #[v, .agg #[.string x.path, .bool x.dir, .int .i64 x.quota, x.bv, .int .i64 x.writer]] w (PutPost w0 w (ins x l)) := by
  have hcp := fun W (hW : Below w.heap.size w W) => copy_calls W x (hx.below hW (Nat.le_refl _)) hn
  have hO := fun W (hW : Below w.heap.size w W) => h.below hW
  obtain ⟨ax, cx, hbv⟩ := bv_slice hx
  have hbl := fun y hy => (h.bl y hy).rd
  simp only [hbv] at hcp
  rw [hbv]
  have hins := fun k hk hd hp => ins_at (n := x) (l := l) (k := k) hk hs hd hp
  have hf := ownx_form h
  have Hcp := Lib.hid hcp; have HO := Lib.hid hO; have Hins := Lib.hid hins; have Hbv := Lib.hid hbv; have Hbl := Lib.hid hbl
  clear hcp hO hins hbv h hx hs hbl
  have b0 : Below w.heap.size w (w.alloc (.cells #[.string x.path, .bool x.dir, .int .i64 x.quota, .slice ax x.blocks.length cx, .int .i64 x.writer] 25 (0, 0))) := (Below.refl _ _).alloc (Nat.le_refl _) _
  have n0 := Lib.hid (heap_alloc_new w (.cells #[.string x.path, .bool x.dir, .int .i64 x.quota, .slice ax x.blocks.length cx, .int .i64 x.writer] 25 (0, 0)))
  rcases hf with ⟨rfl, rfl⟩ | ⟨g, cap, rfl, hcap, hg, hcell⟩
  · go_enter Tryz.func57, Tryz.ntmps57
    go_wp2_with (fail)
    go_loopw [5] (fun v5 wr => v5 = .int .i64 0 ∧ wr = w.alloc (.cells #[.string x.path, .bool x.dir, .int .i64 x.quota, .slice ax x.blocks.length cx, .int .i64 x.writer] 25 (0, 0))) (fun _ _ => 0)
    case atStart => exact ⟨rfl, rfl⟩
    case round =>
      obtain ⟨rfl, rfl⟩ := hrel
      go_wp2_with (fail)
      go_quiet (fail)
      go_wp2_with (fail)
      have BW : Below w.heap.size w ((w.alloc (.cells #[.string x.path, .bool x.dir, .int .i64 x.quota, .slice ax x.blocks.length cx, .int .i64 x.writer] 25 (0, 0))).drewN nq) := b0.trans ((Path.below_drewN (w.alloc (.cells #[.string x.path, .bool x.dir, .int .i64 x.quota, .slice ax x.blocks.length cx, .int .i64 x.writer] 25 (0, 0))) nq).mono b0.size)
      refine (Hcp.out _ BW).mono ?_
      rintro e w6 ⟨⟨v6, rfl, ho6⟩, b6⟩
      have B6 := BW.trans (b6.mono BW.size)
      have Ho6 := Lib.hid ho6
      obtain ⟨a6, k6, rfl, -⟩ := own_slice ho6.own
      clear ho6
      go_wp2_with (at_builtin; (with_reducible refine etN.wpList1 (v := .slice none 0 0) (n := 0) (xs := []) (World.ownsRow_nil _ _ _ _) (heap_alloc_new _ _) rfl (by simp [Value.oneCell']) (by omega) (by unfold maxLen; omega) rfl (.tmp 29) (.tmp 32) rfl rfl rfl ?_); intro g8 cap8 w8 own8 grow8 at8 lt8; have hc8 := ownn_cap own8; simp only [Nat.zero_add, List.nil_append] at own8 hc8)
      go_ret
      have hs8 := OwnX.snoc (w := w0) (w' := w6) (x := { x with bv := .slice a6 x.blocks.length k6 }) (OwnX.nil w0 w6) (Ho6.out.up (Nat.le_trans h0 BW.size)) (Nat.le_trans h0 B6.size) own8 grow8 at8
      exact ⟨⟨_, _, rfl, hs8, rfl⟩, (B6.alloc B6.size _).grown grow8 (by have := B6.size; simp; omega) (fun k hk => by cases hk)⟩
  · have Hcell := Lib.hid hcell; clear hcell
    go_enter Tryz.func57, Tryz.ntmps57
    go_wp2_with (fail)
    go_loopw [5] (fun v5 wr => ∃ k : Nat, v5 = .int .i64 k ∧ k ≤ l.length ∧ (∀ y ∈ l.drop k, ltB (bs x.path) (bs y.path) = true) ∧ Below (w.alloc (.cells #[.string x.path, .bool x.dir, .int .i64 x.quota, .slice ax x.blocks.length cx, .int .i64 x.writer] 25 (0, 0))).heap.size (w.alloc (.cells #[.string x.path, .bool x.dir, .int .i64 x.quota, .slice ax x.blocks.length cx, .int .i64 x.writer] 25 (0, 0))) wr) (fun v5 _ => (intOf v5).toNat)
    case atStart => exact ⟨l.length, rfl, Nat.le_refl _, (fun y hy => by rw [List.drop_length] at hy; cases hy), Below.refl _ _⟩
    case round =>
      obtain ⟨k, rfl, hk, hd, hb⟩ := hrel
      have Hd := Lib.hid hd; clear hd
      have hsz := hb.size
      have n1 := (hb.block _ (lt_of_block n0.out)).trans n0.out
      have hbw : Below w.heap.size w wr := b0.trans (hb.mono (by simp))
      have x0 : wr.cell? ⟨w.heap.size, 0, none⟩ = some (.string x.path) := cell_of_blk n1
      have N1 := Lib.hid n1
      clear n1
      rcases k with _ | k
      · have hI := Hins.out 0 (Nat.zero_le _) Hd.out (fun j y hj => by omega)
        have HI := Lib.hid hI; clear hI
        go_wp2_with (fail)
        go_quiet (fail)
        have hq := Path.below_drewN wr nq
        generalize wr.drewN nq = W at *
        have BW : Below w.heap.size w W := hbw.trans (hq.mono hbw.size)
        have n2 := (hq.block _ (lt_of_block N1.out)).trans N1.out
        obtain ⟨c0, c1, c2, c3, c4⟩ := blk5c n2
        clear x0 n2
        go_wp2_with (fail)
        refine (Hcp.out W BW).mono ?_
        rintro e w6 ⟨⟨v6, rfl, ho6⟩, b6⟩
        clear c0 c1 c2 c3 c4
        have B6 := BW.trans (b6.mono BW.size)
        have Ho6 := Lib.hid ho6
        obtain ⟨a6, k6, rfl, -⟩ := own_slice ho6.own
        clear ho6
        have hcl := fun W hW => cells_take (W := W) l.length (Hcell.out W hW)
        simp only [List.take_length] at hcl
        have Hcl := Lib.hid hcl
        have hone := flatN_one Hbl.out
        have Hone := Lib.hid hone
        clear hcl hone
        go_wp2_with (first | (at_builtin; (with_reducible refine etN.wpList1 (v := .slice none 0 0) (n := 0) (xs := []) (World.ownsRow_nil _ _ _ _) (heap_alloc_new _ _) rfl (by simp [Value.oneCell']) (by omega) (by unfold maxLen; omega) rfl (.tmp 29) (.tmp 32) rfl rfl rfl ?_); intro g8 cap8 w8 own8 grow8 at8 lt8; have B8 := (B6.alloc B6.size _).grown grow8 (by have := B6.size; simp; omega) (fun k hk => by cases hk); have hc8 := ownn_cap own8; have hcl8 := Hcl.out w8 B8; simp only [Nat.zero_add, List.nil_append] at own8) | (at_builtin; (with_reducible refine etN.wpList_app own8 (m := l.length) (c := cap) (ao := some ⟨g, 0, none⟩) (news := flatN l) (flatN_len l) (fun h => by cases h) (fun ad h => by cases h; exact hcl8) Hone.out (by omega) (by unfold maxLen; omega) rfl (.tmp 34) (.tmp 37) rfl rfl rfl ?_); intro v9 w9 own9 grow9 at9 nil9; clear hcl8))
        go_ret
        have hs8 := OwnX.snoc (w := w0) (w' := w6) (x := { x with bv := .slice a6 x.blocks.length k6 }) (OwnX.nil w0 w6) (Ho6.out.up (Nat.le_trans h0 BW.size)) (Nat.le_trans h0 B6.size) own8 grow8 at8
        have B8 := (B6.alloc B6.size _).grown grow8 (by have := B6.size; simp; omega) (fun k hk => by cases hk)
        refine ⟨⟨v9, _, rfl, OwnX.join (q := [{ x with bv := .slice a6 x.blocks.length k6 }]) (r := l) hs8.own hs8.bl (HO.out w8 B8).bl hs8.new (Nat.le_trans h0 B8.size) own9 grow9 at9, ?_⟩, B8.grown grow9 B8.size (fun k hk => ?_)⟩
        · rw [HI.out]; rfl
        · rcases at8 with h | h
          · cases h
          · have : g8 = k := by simpa [Value.ownBlock] using hk
            have := B6.size
            simp at h
            omega
      · obtain ⟨y, hy⟩ : ∃ y, l[k]? = some y := ⟨l[k]'(by omega), by rw [List.getElem?_eq_getElem]⟩
        have d0 := Hcell.out wr hbw (k * 5) _ (flat_at hy)
        cases hlt : ltB (bs x.path) (bs y.path)
        · have hgt : (Op.bytesLess y.path.toList x.path.toList || y.path.toList == x.path.toList) = true := by
            rw [tl_bs, tl_bs]
            rcases lt_tri (bs y.path) (bs x.path) with h | h | h
            · rw [ltB] at h; rw [h, Bool.true_or]
            · rw [beq_iff_eq.2 h, Bool.or_true]
            · rw [hlt] at h; cases h
          rw [Bool.or_eq_true] at hgt
          have hI := Hins.out (k + 1) hk Hd.out (fun j z hj hz => by
            obtain rfl : j = k := by omega
            rw [hy] at hz; cases hz; exact hlt)
          have HI := Lib.hid hI
          have hgt' : (!Op.bytesLess y.path.toList x.path.toList) = false ∨ (!(y.path.toList == x.path.toList)) = false := by
            rcases hgt with h | h
            · exact .inl (by rw [h]; rfl)
            · exact .inr (by rw [h]; rfl)
          clear hI hlt hy hgt'
          have hcl := fun W hW => cells_take (W := W) (k + 1) (Hcell.out W hW)
          have hcd := fun W hW => cells_drop (W := W) (k + 1) (Hcell.out W hW)
          have Hcl := Lib.hid hcl; have Hcd := Lib.hid hcd
          have honeT := flatN_one (l := l.take (k + 1)) fun y hy => Hbl.out y (List.mem_of_mem_take hy)
          have honeD := flatN_one (l := l.drop (k + 1)) fun y hy => Hbl.out y (List.mem_of_mem_drop hy)
          have HoneT := Lib.hid honeT; have HoneD := Lib.hid honeD
          have hlt : (flatN (l.take (k + 1))).length = (k + 1) * 5 := by rw [flatN_len, List.length_take, Nat.min_eq_left hk]
          have hld : (flatN (l.drop (k + 1))).length = (l.length - (k + 1)) * 5 := by rw [flatN_len, List.length_drop]
          have Hlt := Lib.hid hlt; have Hld := Lib.hid hld
          clear hcl hcd honeT honeD hlt hld
          have hxnew := lt_of_block N1.out
          have hk2 : k < l.length := by omega
          have hk3 : k + 1 ≤ cap := by omega
          by_cases hkc : k + 1 = cap
          · subst hkc
            rcases hgt with hgt | hgt
            · (go_wp2_with (fail)); (go_quiet (fail)); (have hq := Path.below_drewN wr nq); (generalize wr.drewN nq = W at *); (have BW : Below w.heap.size w W := hbw.trans (hq.mono hbw.size)); (have n2 := (hq.block _ (lt_of_block N1.out)).trans N1.out); (have hclW := Hcl.out W BW); (have HclW := Lib.hid hclW); (have N2 := Lib.hid n2); (clear x0 n2 d0 hclW hgt); (go_wp2_with (at_builtin; (with_reducible refine etN.wpList_app (v := .slice none 0 0) (n := 0) (xs := []) (World.ownsRow_nil _ _ _ _) (m := k + 1) (c := _) (ao := some ⟨g, 0, none⟩) (news := flatN (l.take (k + 1))) Hlt.out (fun h => by cases h) (fun ad h => by cases h; exact HclW.out) HoneT.out (by omega) (by unfold maxLen; omega) rfl (.tmp 24) (.tmp 27) rfl rfl rfl ?_); intro v5 w5 own5 grow5 at5 nil5; have B5 := BW.grown grow5 BW.size (fun k hk => by cases hk); have n5 := (((Below.refl _ _).grown grow5 (Nat.le_refl _) (fun k hk => by cases hk)).block _ (lt_of_block N2.out)).trans N2.out; obtain ⟨c0, c1, c2, c3, c4⟩ := blk5c n5; simp only [Nat.zero_add, List.nil_append] at own5; clear nil5 n5)); (refine (Hcp.out w5 B5).mono ?_); (rintro e w6 ⟨⟨v6, rfl, ho6⟩, b6⟩); (clear c0 c1 c2 c3 c4); (have Ho6 := Lib.hid ho6); (obtain ⟨a6, k6, rfl, -⟩ := own_slice ho6.own); (have own6 := below_ownsRow b6 own5 (fun g hg => own_ltN own5 g hg)); (have Own5 := Lib.hid own5); (have Own6 := Lib.hid own6); (have At5 := Lib.hid at5); (have Grow5 := Lib.hid grow5); (clear ho6 own5 own6 at5 grow5); (have hz : l.length - (k + 1) = 0 := by omega); (go_wp2_with (at_builtin; (with_reducible refine etN.wpList1 (Own6.out.alloc _) (heap_alloc_new _ _) rfl (by simp [Value.oneCell']) (by omega) (by unfold maxLen; omega) rfl (.tmp 29) (.tmp 32) rfl rfl rfl ?_); intro g8 cap8 w8 own8 grow8 at8 lt8; have hc8 := ownn_cap own8; have Own8 := Lib.hid own8; have Grow8 := Lib.hid grow8; have At8 := Lib.hid at8; clear own8 grow8 at8)); go_ret; (have He := Lib.hid (put_end (x := x) (bv := .slice a6 x.blocks.length k6) (Nat.le_trans h0 BW.size) (HO.out W BW) hk Own5.out Grow5.out At5.out Ho6.out b6 Own8.out Grow8.out At8.out)); (have B8 := BW.trans (He.out.1.mono BW.size)); (have hdn : l.drop (k + 1) = [] := List.drop_eq_nil_of_le (by omega)); (exact ⟨⟨_, _, rfl, He.out.2.1, by rw [HI.out, hdn, List.map_append, List.map_append]; rfl⟩, B8⟩)
            · (go_wp2_with (fail)); (go_quiet (fail)); (have hq := Path.below_drewN wr nq); (generalize wr.drewN nq = W at *); (have BW : Below w.heap.size w W := hbw.trans (hq.mono hbw.size)); (have n2 := (hq.block _ (lt_of_block N1.out)).trans N1.out); (have hclW := Hcl.out W BW); (have HclW := Lib.hid hclW); (have N2 := Lib.hid n2); (clear x0 n2 d0 hclW hgt); (go_wp2_with (at_builtin; (with_reducible refine etN.wpList_app (v := .slice none 0 0) (n := 0) (xs := []) (World.ownsRow_nil _ _ _ _) (m := k + 1) (c := _) (ao := some ⟨g, 0, none⟩) (news := flatN (l.take (k + 1))) Hlt.out (fun h => by cases h) (fun ad h => by cases h; exact HclW.out) HoneT.out (by omega) (by unfold maxLen; omega) rfl (.tmp 24) (.tmp 27) rfl rfl rfl ?_); intro v5 w5 own5 grow5 at5 nil5; have B5 := BW.grown grow5 BW.size (fun k hk => by cases hk); have n5 := (((Below.refl _ _).grown grow5 (Nat.le_refl _) (fun k hk => by cases hk)).block _ (lt_of_block N2.out)).trans N2.out; obtain ⟨c0, c1, c2, c3, c4⟩ := blk5c n5; simp only [Nat.zero_add, List.nil_append] at own5; clear nil5 n5)); (refine (Hcp.out w5 B5).mono ?_); (rintro e w6 ⟨⟨v6, rfl, ho6⟩, b6⟩); (clear c0 c1 c2 c3 c4); (have Ho6 := Lib.hid ho6); (obtain ⟨a6, k6, rfl, -⟩ := own_slice ho6.own); (have own6 := below_ownsRow b6 own5 (fun g hg => own_ltN own5 g hg)); (have Own5 := Lib.hid own5); (have Own6 := Lib.hid own6); (have At5 := Lib.hid at5); (have Grow5 := Lib.hid grow5); (clear ho6 own5 own6 at5 grow5); (have hz : l.length - (k + 1) = 0 := by omega); (go_wp2_with (at_builtin; (with_reducible refine etN.wpList1 (Own6.out.alloc _) (heap_alloc_new _ _) rfl (by simp [Value.oneCell']) (by omega) (by unfold maxLen; omega) rfl (.tmp 29) (.tmp 32) rfl rfl rfl ?_); intro g8 cap8 w8 own8 grow8 at8 lt8; have hc8 := ownn_cap own8; have Own8 := Lib.hid own8; have Grow8 := Lib.hid grow8; have At8 := Lib.hid at8; clear own8 grow8 at8)); go_ret; (have He := Lib.hid (put_end (x := x) (bv := .slice a6 x.blocks.length k6) (Nat.le_trans h0 BW.size) (HO.out W BW) hk Own5.out Grow5.out At5.out Ho6.out b6 Own8.out Grow8.out At8.out)); (have B8 := BW.trans (He.out.1.mono BW.size)); (have hdn : l.drop (k + 1) = [] := List.drop_eq_nil_of_le (by omega)); (exact ⟨⟨_, _, rfl, He.out.2.1, by rw [HI.out, hdn, List.map_append, List.map_append]; rfl⟩, B8⟩)
          · have hkc : k + 1 < cap := by omega
            rcases hgt with hgt | hgt
            · (go_wp2_with (fail)); (go_quiet (fail)); (have hq := Path.below_drewN wr nq); (generalize wr.drewN nq = W at *); (have BW : Below w.heap.size w W := hbw.trans (hq.mono hbw.size)); (have n2 := (hq.block _ (lt_of_block N1.out)).trans N1.out); (have hclW := Hcl.out W BW); (have HclW := Lib.hid hclW); (have N2 := Lib.hid n2); (clear x0 n2 d0 hclW hgt); (go_wp2_with (at_builtin; (with_reducible refine etN.wpList_app (v := .slice none 0 0) (n := 0) (xs := []) (World.ownsRow_nil _ _ _ _) (m := k + 1) (c := _) (ao := some ⟨g, 0, none⟩) (news := flatN (l.take (k + 1))) Hlt.out (fun h => by cases h) (fun ad h => by cases h; exact HclW.out) HoneT.out (by omega) (by unfold maxLen; omega) rfl (.tmp 24) (.tmp 27) rfl rfl rfl ?_); intro v5 w5 own5 grow5 at5 nil5; have B5 := BW.grown grow5 BW.size (fun k hk => by cases hk); have n5 := (((Below.refl _ _).grown grow5 (Nat.le_refl _) (fun k hk => by cases hk)).block _ (lt_of_block N2.out)).trans N2.out; obtain ⟨c0, c1, c2, c3, c4⟩ := blk5c n5; simp only [Nat.zero_add, List.nil_append] at own5; clear nil5 n5)); (refine (Hcp.out w5 B5).mono ?_); (rintro e w6 ⟨⟨v6, rfl, ho6⟩, b6⟩); (clear c0 c1 c2 c3 c4); (have Ho6 := Lib.hid ho6); (obtain ⟨a6, k6, rfl, -⟩ := own_slice ho6.own); (have own6 := below_ownsRow b6 own5 (fun g hg => own_ltN own5 g hg)); (have Own5 := Lib.hid own5); (have Own6 := Lib.hid own6); (have At5 := Lib.hid at5); (have Grow5 := Lib.hid grow5); (clear ho6 own5 own6 at5 grow5); (go_wp2_with (first | (at_builtin; (with_reducible refine etN.wpList1 (Own6.out.alloc _) (heap_alloc_new _ _) rfl (by simp [Value.oneCell']) (by omega) (by unfold maxLen; omega) rfl (.tmp 29) (.tmp 32) rfl rfl rfl ?_); intro g8 cap8 w8 own8 grow8 at8 lt8; have He := Lib.hid (put_end (x := x) (bv := .slice a6 x.blocks.length k6) (Nat.le_trans h0 BW.size) (HO.out W BW) hk Own5.out Grow5.out At5.out Ho6.out b6 own8 grow8 at8); have B8 := BW.trans (He.out.1.mono BW.size); have hc8 := ownn_cap own8; have Hcd8 := Lib.hid (Hcd.out w8 B8); have Own8 := Lib.hid own8; clear own8 grow8 at8) | (at_builtin; (with_reducible refine etN.wpList_app Own8.out (m := l.length - (k + 1)) (c := cap - (k + 1)) (ao := some ⟨g, (k + 1) * 5, none⟩) (news := flatN (l.drop (k + 1))) Hld.out (fun h => by cases h) (fun ad h => by cases h; exact Hcd8.out) HoneD.out (by omega) (by unfold maxLen; omega) rfl (.tmp 34) (.tmp 37) rfl rfl rfl ?_); intro v9 w9 own9 grow9 at9 nil9))); go_ret; (have hf := put_fin (x := { x with bv := .slice a6 x.blocks.length k6 }) hk He.out own9 grow9 at9); (exact ⟨⟨v9, _, rfl, hf.1, by rw [HI.out, List.map_append, List.map_append]; rfl⟩, BW.trans (hf.2.mono BW.size)⟩)
            · (go_wp2_with (fail)); (go_quiet (fail)); (have hq := Path.below_drewN wr nq); (generalize wr.drewN nq = W at *); (have BW : Below w.heap.size w W := hbw.trans (hq.mono hbw.size)); (have n2 := (hq.block _ (lt_of_block N1.out)).trans N1.out); (have hclW := Hcl.out W BW); (have HclW := Lib.hid hclW); (have N2 := Lib.hid n2); (clear x0 n2 d0 hclW hgt); (go_wp2_with (at_builtin; (with_reducible refine etN.wpList_app (v := .slice none 0 0) (n := 0) (xs := []) (World.ownsRow_nil _ _ _ _) (m := k + 1) (c := _) (ao := some ⟨g, 0, none⟩) (news := flatN (l.take (k + 1))) Hlt.out (fun h => by cases h) (fun ad h => by cases h; exact HclW.out) HoneT.out (by omega) (by unfold maxLen; omega) rfl (.tmp 24) (.tmp 27) rfl rfl rfl ?_); intro v5 w5 own5 grow5 at5 nil5; have B5 := BW.grown grow5 BW.size (fun k hk => by cases hk); have n5 := (((Below.refl _ _).grown grow5 (Nat.le_refl _) (fun k hk => by cases hk)).block _ (lt_of_block N2.out)).trans N2.out; obtain ⟨c0, c1, c2, c3, c4⟩ := blk5c n5; simp only [Nat.zero_add, List.nil_append] at own5; clear nil5 n5)); (refine (Hcp.out w5 B5).mono ?_); (rintro e w6 ⟨⟨v6, rfl, ho6⟩, b6⟩); (clear c0 c1 c2 c3 c4); (have Ho6 := Lib.hid ho6); (obtain ⟨a6, k6, rfl, -⟩ := own_slice ho6.own); (have own6 := below_ownsRow b6 own5 (fun g hg => own_ltN own5 g hg)); (have Own5 := Lib.hid own5); (have Own6 := Lib.hid own6); (have At5 := Lib.hid at5); (have Grow5 := Lib.hid grow5); (clear ho6 own5 own6 at5 grow5); (go_wp2_with (first | (at_builtin; (with_reducible refine etN.wpList1 (Own6.out.alloc _) (heap_alloc_new _ _) rfl (by simp [Value.oneCell']) (by omega) (by unfold maxLen; omega) rfl (.tmp 29) (.tmp 32) rfl rfl rfl ?_); intro g8 cap8 w8 own8 grow8 at8 lt8; have He := Lib.hid (put_end (x := x) (bv := .slice a6 x.blocks.length k6) (Nat.le_trans h0 BW.size) (HO.out W BW) hk Own5.out Grow5.out At5.out Ho6.out b6 own8 grow8 at8); have B8 := BW.trans (He.out.1.mono BW.size); have hc8 := ownn_cap own8; have Hcd8 := Lib.hid (Hcd.out w8 B8); have Own8 := Lib.hid own8; clear own8 grow8 at8) | (at_builtin; (with_reducible refine etN.wpList_app Own8.out (m := l.length - (k + 1)) (c := cap - (k + 1)) (ao := some ⟨g, (k + 1) * 5, none⟩) (news := flatN (l.drop (k + 1))) Hld.out (fun h => by cases h) (fun ad h => by cases h; exact Hcd8.out) HoneD.out (by omega) (by unfold maxLen; omega) rfl (.tmp 34) (.tmp 37) rfl rfl rfl ?_); intro v9 w9 own9 grow9 at9 nil9))); go_ret; (have hf := put_fin (x := { x with bv := .slice a6 x.blocks.length k6 }) hk He.out own9 grow9 at9); (exact ⟨⟨v9, _, rfl, hf.1, by rw [HI.out, List.map_append, List.map_append]; rfl⟩, BW.trans (hf.2.mono BW.size)⟩)
        · have h1 : Op.bytesLess y.path.toList x.path.toList = false := by rw [tl_bs, tl_bs]; exact lt_asym hlt
          have h2 : (y.path.toList == x.path.toList) = false := by rw [tl_bs, tl_bs]; exact beq_false_of_ne (fun e => lt_ne hlt e.symm)
          have Hlt := Lib.hid hlt; have Hy := Lib.hid hy
          clear hlt hy
          go_wp2_with (fail)
          go_quiet (fail)
          go_wp2_with (fail)
          go_roundw
          case rel =>
            refine ⟨k, by go_num, by omega, fun z hz => ?_, hb.trans ((Path.below_drewN wr nq).mono hb.size)⟩
            rw [List.drop_eq_getElem_cons (by omega)] at hz
            rcases List.mem_cons.1 hz with rfl | hz
            · have := (List.getElem?_eq_some_iff.1 Hy.out).2
              rw [this]; exact Hlt.out
            · exact Hd.out z hz
          case measure => simp [intOf]
end Go.Proofs.YtpghaghmejgjbaaGreatDoor.Tree
