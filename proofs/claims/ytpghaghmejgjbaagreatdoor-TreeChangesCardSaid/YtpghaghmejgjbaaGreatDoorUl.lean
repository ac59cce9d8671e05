/- Trees (chapter 7): the document's List. -/
import Derived.Test.YtpghaghmejgjbaaGreatDoorGc
import Derived.Laws.Cover1
namespace Go.Proofs.YtpghaghmejgjbaaGreatDoor.Tree
open Go.RowKit
open Path (Bs bs mk bs_mk mk_bs tl_bs splitE splitL MaxC parD parE parN OwnS ParPost SplPost etS flatS flatS_len flatS_snoc encS rd_cellsS)
set_option linter.unusedSimpArgs false
set_option linter.unusedVariables false

theorem rpath_calls (w : World) (p : ByteArray) : Calls Tryz.prog 36 #[.string p] w fun e w' => e = .returned (.bool (decide (splitE (bs p) = 0))) ∧ Below w.heap.size w w' := by
  have h1 := Path.rsplit_calls w p
  generalize splitE (bs p) = E at *
  generalize hq : (splitL (bs p)).map mk = q at *
  clear hq
  go_enter Tryz.func36, Tryz.ntmps36
  go_wp2_with (fail)
  refine h1.mono ?_
  rintro e w1 ⟨v, rfl, -, hb⟩
  go_wp2_with (fail)
  go_ret
  exact ⟨ret_bool (by by_cases h : E = 0 <;> simp [h]), hb⟩
theorem pre_last {l : List Nd} (h : rightT l = true) {p : Bs} {k : Nat} {x : Nd} (hx : (l.drop 1)[k]? = some x) (hp : (parD (bs x.path) == p) = true) {n : Nat} (hn : (preN l p k).length = n + 1) : ∃ t, (preN l p k)[n]? = some t ∧ ltB (bs t) (parN (bs x.path)) = true := by
  have hlt : n < (preN l p k).length := by omega
  refine ⟨(preN l p k)[n], by simp [hlt], ?_⟩
  have h1 := names_rise h p
  rw [← pre_end] at h1
  have hy := pre_yes hx hp
  have hle : preN l p (k + 1) <+: preN l p (l.drop 1).length := by
    have : (l.drop 1).take (k + 1) <+: (l.drop 1).take (l.drop 1).length := by rw [List.take_length]; exact List.take_prefix _ _
    exact (this.filter _).map _
  rw [hy] at hle
  obtain ⟨r, hr⟩ := hle
  rw [← hr, List.map_append, List.map_append] at h1
  have h2 := (List.pairwise_append.1 h1).1
  have h3 := (List.pairwise_append.1 h2).2.2 (bs (preN l p k)[n]) (List.mem_map_of_mem (List.getElem_mem hlt)) (bs (nameOf x)) (by simp)
  rwa [nameOf, bs_mk] at h3
theorem list_ways (l : List Nd) (p : Bs) : (rightT l = false ∧ listE l p = 1) ∨ (rightT l = true ∧ decide (splitE p = 0) = false ∧ listE l p = 1) ∨ (rightT l = true ∧ decide (splitE p = 0) = true ∧ findI p l = -1 ∧ listE l p = 5) ∨
    (∃ (i : Nat) (x : Nd), rightT l = true ∧ decide (splitE p = 0) = true ∧ findI p l = i ∧ l[i]? = some x ∧ x.dir = false ∧ listE l p = 7) ∨ (∃ (i : Nat) (x : Nd), rightT l = true ∧ decide (splitE p = 0) = true ∧ findI p l = i ∧ l[i]? = some x ∧ x.dir = true ∧ listE l p = 0) := by
  rw [listE]
  cases hr : rightT l
  · exact .inl ⟨rfl, by rw [if_neg (by simp)]⟩
  refine .inr ?_
  by_cases hs : splitE p = 0
  · refine .inr ?_
    rw [if_pos ⟨rfl, hs⟩]
    rcases find_facts p l with ⟨h1, h2⟩ | ⟨i, x, h1, h2, h3⟩
    · exact .inl ⟨rfl, by simp [hs], h1, by rw [h2]⟩
    · refine .inr ?_
      rw [h3]
      cases hd : x.dir
      · exact .inl ⟨i, x, rfl, by simp [hs], h1, h2, hd, by simp [hd]⟩
      · exact .inr ⟨i, x, rfl, by simp [hs], h1, h2, hd, by simp [hd]⟩
  · exact .inl ⟨rfl, by simp [hs], by rw [if_neg (by simp [hs])]⟩
set_option maxRecDepth 4000 in
set_option maxHeartbeats 8000000 in
theorem rlist_no (w : World) (v : Value) (l : List Nd) (p : ByteArray) (h : RdN w v l) (hn : l.length ≤ 8796093022208) (hE : listE l (bs p) ≠ 0) :
    Calls Tryz.prog 11 #[v, .string p] w fun e w' => e = .returned (.tuple #[.slice none 0 0, .int .i64 (listE l (bs p))]) ∧ Below w.heap.size w w' := by
  have hri := rright_calls w v l h hn
  have hpa := fun W => rpath_calls W p
  have hfi := fun W (hW : Below w.heap.size w W) => rfind_calls W v l p (h.below hW).rd hn
  obtain ⟨ao, cap, rfl, _, _, hcell⟩ := rd_cellsN h.rd
  have Hfi := Lib.hid hfi; have Hcell := Lib.hid hcell; have Hpa := Lib.hid hpa
  clear hpa hfi hcell h
  rcases list_ways l (bs p) with ⟨h1, h2⟩ | ⟨h1, h2, h3⟩ | ⟨h1, h2, h3, h4⟩ | ⟨i, x, h1, h2, h3, h4, h5, h6⟩ | ⟨i, x, h1, h2, h3, h4, h5, h6⟩
  rotate_right
  · exact absurd h6 hE
  · rw [h1] at hri
    rw [h2]
    clear hE h1 h2
    go_enter Tryz.func11, Tryz.ntmps11
    go_wp2_with (fail)
    refine hri.mono ?_
    rintro e w1 ⟨rfl, b1⟩
    go_wp2_with (fail)
    refine (Hpa.out w1).mono ?_
    rintro e w2 ⟨rfl, b2⟩
    have B2 := b1.trans (b2.mono b1.size)
    go_wp2_with (fail)
    go_ret2
    exact ⟨rfl, B2⟩
  · rw [h1] at hri
    have hp := fun W => Hpa.out W
    rw [h2] at hp
    rw [h3]
    clear hE h1 h2 h3 Hpa
    go_enter Tryz.func11, Tryz.ntmps11
    go_wp2_with (fail)
    refine hri.mono ?_
    rintro e w1 ⟨rfl, b1⟩
    go_wp2_with (fail)
    refine (hp w1).mono ?_
    rintro e w2 ⟨rfl, b2⟩
    have B2 := b1.trans (b2.mono b1.size)
    go_wp2_with (fail)
    go_ret2
    exact ⟨rfl, B2⟩
  · rw [h1] at hri
    have hp := fun W => Hpa.out W
    have hf := Hfi.out
    rw [h2] at hp
    rw [h4]
    rw [h3] at hf
    clear hE h1 h2 h3 h4 Hpa Hfi
    have Hf := Lib.hid hf; have Hp := Lib.hid hp
    clear hf hp
    go_enter Tryz.func11, Tryz.ntmps11
    go_wp2_with (fail)
    refine hri.mono ?_
    rintro e w1 ⟨rfl, b1⟩
    go_wp2_with (fail)
    refine (Hp.out w1).mono ?_
    rintro e w2 ⟨rfl, b2⟩
    have B2 := b1.trans (b2.mono b1.size)
    go_wp2_with (fail)
    refine (Hf.out w2 B2).mono ?_
    rintro e w3 ⟨rfl, b3⟩
    go_wp2_with (fail)
    go_ret2
    exact ⟨rfl, B2.trans (b3.mono B2.size)⟩
  · rw [h1] at hri
    have hp := fun W => Hpa.out W
    have hf := Hfi.out
    rw [h2] at hp
    rw [h6]
    rw [h3] at hf
    have hil := (List.getElem?_eq_some_iff.1 h4).1
    have Hf := Lib.hid hf; have Hp := Lib.hid hp; have Hx := Lib.hid h4; have Hd := Lib.hid h5
    clear hf hp hE h1 h2 h3 h4 h5 h6 Hpa Hfi
    go_enter Tryz.func11, Tryz.ntmps11
    go_wp2_with (fail)
    refine hri.mono ?_
    rintro e w1 ⟨rfl, b1⟩
    go_wp2_with (fail)
    refine (Hp.out w1).mono ?_
    rintro e w2 ⟨rfl, b2⟩
    have B2 := b1.trans (b2.mono b1.size)
    go_wp2_with (fail)
    refine (Hf.out w2 B2).mono ?_
    rintro e w3 ⟨rfl, b3⟩
    have B3 := B2.trans (b3.mono B2.size)
    obtain ⟨b, off, rfl, _, c0, c1, c2, c3, c4⟩ := Hcell.out w3 B3 i x Hx.out
    rw [Hd.out] at c1
    go_wp2_with (fail)
    go_ret2
    exact ⟨rfl, B3⟩
/-- What List has gathered: nil, or a row of the call's own. -/
def OutS (w w' : World) (v : Value) (q : List ByteArray) : Prop :=
  (v = .slice none 0 0 ∧ q = []) ∨ ∃ g cap, v = .slice (some ⟨g, 0, none⟩) q.length cap ∧ 1 ≤ q.length ∧ q.length ≤ cap ∧ OwnS w w' v q
theorem OutS.own {w w' : World} {v : Value} {q : List ByteArray} (h : OutS w w' v q) : OwnS w w' v q := by
  rcases h with ⟨rfl, rfl⟩ | ⟨g, cap, rfl, _, _, h⟩
  · exact OwnS.nil _ _
  · exact h
theorem OutS.below {w w' w'' : World} {v : Value} {q : List ByteArray} (h : OutS w w' v q) (hb : Below w'.heap.size w' w'') : OutS w w'' v q := by
  rcases h with ⟨rfl, rfl⟩ | ⟨g, cap, rfl, h1, h2, h⟩
  · exact .inl ⟨rfl, rfl⟩
  · exact .inr ⟨g, cap, rfl, h1, h2, ownS_below h hb⟩
theorem own_cap {w : World} {a : Option Addr} {n cap : Nat} {xs : List Value} (h : w.ownsRow 0 9 1 (.slice a n cap) n xs) : n ≤ cap := by
  obtain ⟨ao, c, hv, hc⟩ := own_slice h
  cases hv; exact hc
theorem two {w w4 w5 w6 : World} {q : List ByteArray} {nm : ByteArray} {v1 : Value} {g cap : Nat} {o : Obj} (hb : Below w.heap.size w w4) (grow1 : w4.grownBy w5 none) (at1 : v1.ownBlock = none ∨ v1.ownBlock = some w4.heap.size)
    (own6 : w6.ownsRow 0 9 1 (.slice (some ⟨g, 0, none⟩) (q.length + 1) cap) (q.length + 1) (flatS q ++ [.string nm])) (grow6 : (w5.alloc o).grownBy w6 v1.ownBlock) (at6 : v1.ownBlock = some g ∨ g = w5.heap.size + 1) :
    OutS w w6 (.slice (some ⟨g, 0, none⟩) (q.length + 1) cap) (q ++ [nm]) ∧ Below w.heap.size w w6 := by
  have b5 : Below w.heap.size w w5 := hb.grown grow1 hb.size (fun k hk => by cases hk)
  have hv1 : ∀ k, v1.ownBlock = some k → w.heap.size ≤ k := fun k hk => by
    rcases at1 with h | h
    · rw [h] at hk; cases hk
    · rw [h] at hk; cases hk; exact hb.size
  have b6 : Below w.heap.size w w6 := (b5.alloc b5.size o).grown grow6 (by have := b5.size; simp; omega) hv1
  have hg : w.heap.size ≤ g := by
    rcases at6 with h | h
    · exact hv1 g h
    · have := b5.size; omega
  refine ⟨?_, b6⟩
  have hl : (q ++ [nm]).length = q.length + 1 := by simp
  have hc := own_cap own6
  rw [← flatS_snoc] at own6
  refine .inr ⟨g, cap, by rw [hl], by omega, by omega, ⟨by rw [hl]; exact own6, fun k hk => ?_⟩⟩
  have : g = k := by simpa [Value.ownBlock] using hk
  omega
theorem grown_same (w : World) (row : Option Nat) : w.grownBy w row := ⟨rfl, rfl, rfl, Nat.le_refl _, fun _ _ _ => rfl⟩
set_option maxRecDepth 4000 in
set_option maxHeartbeats 16000000 in
theorem rlist_yes (w : World) (v : Value) (l : List Nd) (p : ByteArray) (h : RdN w v l) (hn : l.length ≤ 8796093022208) (hE : listE l (bs p) = 0) :
    Calls Tryz.prog 11 #[v, .string p] w fun e w' => (∃ v', e = .returned (.tuple #[v', .int .i64 0]) ∧ OwnS w w' v' ((childL l (bs p)).map nameOf)) ∧ Below w.heap.size w w' := by
  obtain ⟨i, x0, h1, h2, h3, h4, h5⟩ : ∃ (i : Nat) (x : Nd), rightT l = true ∧ decide (splitE (bs p) = 0) = true ∧ findI (bs p) l = i ∧ l[i]? = some x ∧ x.dir = true := by
    rcases list_ways l (bs p) with ⟨_, h2⟩ | ⟨_, _, h3⟩ | ⟨_, _, _, h4⟩ | ⟨i, x, _, _, _, _, _, h6⟩ | ⟨i, x, h1, h2, h3, h4, h5, h6⟩
    · rw [h2] at hE; cases hE
    · rw [h3] at hE; cases hE
    · rw [h4] at hE; cases hE
    · rw [h6] at hE; cases hE
    · exact ⟨i, x, h1, h2, h3, h4, h5⟩
  have hri := rright_calls w v l h hn
  have hp := fun W => rpath_calls W p
  have hf := fun W (hW : Below w.heap.size w W) => rfind_calls W v l p (h.below hW).rd hn
  have hpar := fun W q => Path.rparent_calls W q
  rw [h1] at hri
  rw [h2] at hp
  rw [h3] at hf
  have h60 := right_len h1
  have hpos : 1 ≤ l.length := by have := (List.getElem?_eq_some_iff.1 h4).1; omega
  have hil := (List.getElem?_eq_some_iff.1 h4).1
  have hpl := fun k x hx hq n hn => pre_last h1 (p := bs p) (k := k) (x := x) hx hq (n := n) hn
  obtain ⟨ao, cap, rfl, _, _, hcell⟩ := rd_cellsN h.rd
  have Hcell := Lib.hid hcell; have Hp := Lib.hid hp; have Hf := Lib.hid hf; have Hx0 := Lib.hid h4; have Hd0 := Lib.hid h5; have Hpar := Lib.hid hpar; have Hpl := Lib.hid hpl
  have hsl : (l.drop 1).length = l.length - 1 := List.length_drop
  have Hsl := Lib.hid hsl
  obtain ⟨b, off, rfl, _, _⟩ := hcell w (Below.refl _ _) i x0 h4
  clear hcell hp hf hE h1 h2 h3 h4 h5 h hpar hpl hsl
  have hdr : ∀ k : Nat, l[k + 1]? = (l.drop 1)[k]? := fun k => by rw [List.getElem?_drop, Nat.add_comm]
  have Hdr := Lib.hid hdr
  clear hdr
  generalize hlm : l.length = lm at *
  obtain ⟨m, rfl⟩ : ∃ m, lm = m + 1 := ⟨lm - 1, by omega⟩
  rw [Nat.add_sub_cancel] at Hsl
  clear hlm
  go_enter Tryz.func11, Tryz.ntmps11
  go_wp2_with (fail)
  refine hri.mono ?_
  rintro e w1 ⟨rfl, b1⟩
  go_wp2_with (fail)
  refine (Hp.out w1).mono ?_
  rintro e w2 ⟨rfl, b2⟩
  have B2 := b1.trans (b2.mono b1.size)
  go_wp2_with (fail)
  refine (Hf.out w2 B2).mono ?_
  rintro e w3 ⟨rfl, b3⟩
  have B3 := B2.trans (b3.mono B2.size)
  obtain ⟨b', off', he, _, d0, d1, d2, d3, d4⟩ := Hcell.out w3 B3 i x0 Hx0.out
  simp only [Option.some.injEq, Addr.mk.injEq, and_true] at he
  obtain ⟨rfl, rfl⟩ := he
  rw [Hd0.out] at d1
  clear d0 d2 d3 d4 hri
  go_wp2_with (fail)
  clear d1
  go_loopw [9, 10, 11, 12, 13, 14, 15] (fun vo vk _ _ _ _ _ wr => ∃ k : Nat, vk = .int .i64 ((k + 1 : Nat) : Int) ∧ k ≤ m ∧ OutS w wr vo (preN l (bs p) k) ∧ Below w.heap.size w wr) (fun _ vk _ _ _ _ _ _ => m + 1 - (intOf vk).toNat)
  case atStart => exact ⟨0, rfl, Nat.zero_le _, .inl ⟨rfl, rfl⟩, B3⟩
  case round =>
    obtain ⟨k, rfl, hk, hO, hb⟩ := hrel
    have HO := Lib.hid hO
    have hlen := pre_len l (bs p) k
    by_cases hlt : k < m
    · obtain ⟨x, hx⟩ : ∃ x, (l.drop 1)[k]? = some x := ⟨(l.drop 1)[k]'(by rw [Hsl.out]; omega), by rw [List.getElem?_eq_getElem]⟩
      obtain ⟨b', off', he, _, d0, d1, d2, d3, d4⟩ := Hcell.out wr hb (k + 1) x (by rw [Hdr.out, hx])
      simp only [Option.some.injEq, Addr.mk.injEq, and_true] at he
      obtain ⟨rfl, rfl⟩ := he
      clear d1 d2 d3 d4 hO
      have hp := Hpar.out wr x.path
      have Hx := Lib.hid hx
      clear hx
      cases hq : (parD (bs x.path) == bs p)
      · have hq' : ((mk (parD (bs x.path))).toList == p.toList) = false := by rw [tl_bs, tl_bs, bs_mk]; exact hq
        have hq'' : ((mk (parD (bs x.path))).toList != p.toList) = true := by rw [bne, hq']; rfl
        have Hnx := Lib.hid (pre_no Hx.out hq)
        clear hq
        go_wp2_with (fail)
        refine hp.mono ?_
        rintro e w4 ⟨rfl, hb4⟩
        have hb4' := hb.trans (hb4.mono hb.size)
        go_wp2_with (fail)
        go_roundw
        case rel => exact ⟨k + 1, by go_num, by omega, by rw [Hnx.out]; exact HO.out.below hb4, hb4'⟩
        case measure => simp [intOf]; omega
      · have hq' : ((mk (parD (bs x.path))).toList == p.toList) = true := by rw [tl_bs, tl_bs, bs_mk]; exact hq
        have hq'' : ((mk (parD (bs x.path))).toList != p.toList) = false := by rw [bne, hq']; rfl
        have Hnx := Lib.hid (pre_yes Hx.out hq)
        have hlast := fun n hn => Hpl.out k x Hx.out hq n hn
        have Hlast := Lib.hid hlast
        clear hq hlast
        go_wp2_with (fail)
        refine hp.mono ?_
        rintro e w4 ⟨rfl, hb4⟩
        clear d0 hp
        have hb4' := hb.trans (hb4.mono hb.size)
        have hO4 := HO.out.below hb4
        generalize hpn : preN l (bs p) k = q at *
        clear hpn
        have hnm : mk (parN (bs x.path)) = nameOf x := rfl
        rw [hnm]
        generalize nameOf x = nm at *
        have Hb4 := Lib.hid hb4'
        rcases hO4 with ⟨rfl, rfl⟩ | ⟨g0, c0, rfl, hq1, hqc, hO4⟩
        · clear hlen
          go_wp2_with (fail)
          go_loopw [14] (fun v14 wr => v14 = .int .i64 0 ∧ wr = w4) (fun _ _ => 0)
          case atStart => exact ⟨rfl, rfl⟩
          case round =>
            obtain ⟨rfl, rfl⟩ := hrel
            go_wp2_with (at_builtin; (with_reducible refine etS.wpList1 (v := .slice none 0 0) (n := 0) (xs := []) (World.ownsRow_nil _ _ _ _) (heap_alloc_new _ _) rfl (by simp [Value.oneCell']) (by omega) (by unfold maxLen; omega) rfl (.tmp 76) (.tmp 78) rfl rfl rfl ?_); intro g6 cap6 w6 own6 grow6 at6 lt6; simp only [Nat.zero_add, List.nil_append] at own6; have hc6 := own_cap own6)
            go_roundw
            case rel =>
              have h2 := two (q := []) (v1 := .slice none 0 0) Hb4.out (grown_same _ _) (.inl rfl) own6 grow6 (at6.imp id fun h => by simpa using h)
              exact ⟨k + 1, by go_num, by omega, by rw [Hnx.out]; exact h2.1, h2.2⟩
            case measure => simp [intOf]; omega
        · obtain ⟨n2, hn2⟩ : ∃ n2, q.length = n2 + 1 := ⟨q.length - 1, by omega⟩
          obtain ⟨t, ht, hlt2⟩ := Hlast.out n2 hn2
          obtain ⟨ag, cg, hvg, _, _, hcg⟩ := rd_cellsS hO4.rd
          obtain ⟨bg, og, hag, _, t0⟩ := hcg w4 (Below.refl _ _) n2 t ht
          simp only [Value.slice.injEq] at hvg
          obtain ⟨rfl, -, -⟩ := hvg
          simp only [Option.some.injEq, Addr.mk.injEq, and_true] at hag
          obtain ⟨rfl, rfl⟩ := hag
          rw [Nat.zero_add] at t0
          have hgt : Op.bytesLess t.toList nm.toList = true := by
            rw [tl_bs, tl_bs, ← hnm, bs_mk]; exact hlt2
          have hfl := Path.rd_flatS hO4.rd rfl w4 (Below.refl _ _)
          have hfn : (flatS q).length = (n2 + 1) * 1 := by rw [flatS_len, hn2, Nat.mul_one]
          have H2 := Lib.hid (fun w5 w6 v1 g cap o => two (w5 := w5) (w6 := w6) (v1 := v1) (g := g) (cap := cap) (o := o) (nm := nm) (q := q) Hb4.out)
          have Hfl := Lib.hid hfl; have Hfn := Lib.hid hfn
          clear hcg ht hlt2 hO4 hfl hfn
          have Hqn := Lib.hid hn2
          clear hnm
          have hn60 : n2 ≤ 60 := by omega
          have hnc : n2 + 1 ≤ c0 := by omega
          rw [hn2]
          clear hn2 hlen hq1 hqc
          go_wp2_with (fail)
          go_loopw [14] (fun v14 wr => v14 = .int .i64 ((n2 + 1 : Nat) : Int) ∧ wr = w4) (fun _ _ => 0)
          case atStart => exact ⟨by go_num, rfl⟩
          case round =>
            obtain ⟨rfl, rfl⟩ := hrel
            go_wp2_with (first | (at_builtin; (with_reducible refine etS.wpList_app (v := .slice none 0 0) (n := 0) (xs := []) (World.ownsRow_nil _ _ _ _) (m := n2 + 1) (c := c0) (ao := some ⟨g0, 0, none⟩) (news := flatS q) Hfn.out (fun h => by cases h) (fun ad h => by cases h; exact Hfl.out) (Path.flatS_one q) (by omega) (by unfold maxLen; omega) rfl (.tmp 71) (.tmp 74) rfl rfl rfl ?_); intro v1 w5 own1 grow1 at1 nil1; simp only [Nat.zero_add, List.nil_append] at own1) | (at_builtin; (with_reducible refine etS.wpList1 (own_alloc own1 _) (heap_alloc_new _ _) rfl (by simp [Value.oneCell']) (by omega) (by unfold maxLen; omega) rfl (.tmp 76) (.tmp 78) rfl rfl rfl ?_); intro g6 cap6 w6 own6 grow6 at6 lt6; have hc6 := own_cap own6))
            all_goals
              go_roundw
              case rel =>
                have h2 := H2.out w5 w6 v1 g6 cap6 _ grow1 (at1.imp id fun h => h) (by rw [Hqn.out]; exact own6) grow6 (at6.imp id fun h => by simpa using h)
                rw [Hqn.out] at h2
                exact ⟨k + 1, by go_num, by omega, by rw [Hnx.out]; exact h2.1, h2.2⟩
              case measure => simp [intOf]; omega
    · obtain rfl : k = m := by omega
      have he : preN l (bs p) k = (childL l (bs p)).map nameOf := by rw [← pre_end, Hsl.out]
      have He := Lib.hid he
      clear hO he hlen
      go_wp2_with (fail)
      go_ret2
      exact ⟨⟨_, rfl, by rw [← He.out]; exact HO.out.own⟩, hb⟩
theorem rlist_calls (w : World) (v : Value) (l : List Nd) (p : ByteArray) (h : RdN w v l) (hn : l.length ≤ 8796093022208) :
    Calls Tryz.prog 11 #[v, .string p] w fun e w' => (∃ v', e = .returned (.tuple #[v', .int .i64 (listE l (bs p))]) ∧ OwnS w w' v' (listN l (bs p))) ∧ Below w.heap.size w w' := by
  rw [listN]
  by_cases hE : listE l (bs p) = 0
  · rw [hE, if_pos rfl]; exact rlist_yes w v l p h hn hE
  · rw [if_neg hE]
    refine (rlist_no w v l p h hn hE).mono ?_
    rintro e w' ⟨rfl, hb⟩
    exact ⟨⟨_, rfl, OwnS.nil _ _⟩, hb⟩
end Go.Proofs.YtpghaghmejgjbaaGreatDoor.Tree
