/- Parts of the proof, one behind the other: Ta, Tb, Tc, Td, Te, Tf, Tg, Th, Ti, Tj, Tk, Tl, Tm, Tn, To, Tp. -/
import Derived.Test.YtdfckkadmgmcaaaGreatDoorGa
import Derived.Laws.EntriesVeiled
import Derived.Deep.RegionWith
import Derived.Lib.QuietBelow
import Derived.Laws.Cover1
import Derived.Deep.Strs
import Derived.Test.YtdfckkadmgmcaaaGreatDoorSi
import Derived.Sort.OwnSorted
/- Trees, in plain words; what a node may be: its blocks. -/
namespace Go.Proofs.YtdfckkadmgmcaaaGreatDoor.Tree
open Go.RowKit
open Path (Bs bs mk bs_mk mk_bs tl_bs splitE splitL MaxC)
set_option linter.unusedSimpArgs false
set_option linter.unusedVariables false

structure Bl where
  id : Int
  gen : Int
  len : Int
def encB (x : Bl) : List Value := [.int .i64 x.id, .int .i64 x.gen, .int .i64 x.len]
theorem encB_len (x : Bl) : (encB x).length = 3 := rfl
structure Nd where
  path : ByteArray
  dir : Bool
  quota : Int
  blocks : List Bl
  bv : Value
  writer : Int
def encN (x : Nd) : List Value := [.string x.path, .bool x.dir, .int .i64 x.quota, x.bv, .int .i64 x.writer]
theorem encN_len (x : Nd) : (encN x).length = 5 := rfl
def oneB (n : Int) : Bool := decide (1 ≤ n) && decide (n ≤ 9007199254740991)
def okBl (b : Bl) : Bool := oneB b.id && oneB b.gen && decide (0 ≤ b.len) && decide (b.len ≤ 64)
def fitsN (x : Nd) : Bool := decide (splitE (bs x.path) = 0) && decide (-1 ≤ x.quota) && decide (-1 ≤ x.writer) &&
  (if x.dir = true then decide (x.blocks.length = 0) && decide (x.writer = -1) && decide (x.quota ≤ 9007199254740991)
   else !(bs x.path == [47]) && decide (x.quota = -1) && decide (x.writer < 4) && decide (x.blocks.length ≤ 8) && x.blocks.all okBl)

/-- What an element of a row of blocks reads as. -/
theorem rd_cellsB {w : World} {v : Value} {l : List Bl} (h : Rd w 3 encB v l) : ∃ ao cap, v = .slice ao l.length cap ∧ l.length ≤ cap ∧ cap ≤ maxLen ∧ ∀ W, Below w.heap.size w W → ∀ k x, l[k]? = some x →
    ∃ b off, ao = some ⟨b, off, none⟩ ∧ b < w.heap.size ∧ W.cell? ⟨b, off + k * 3, none⟩ = some (.int .i64 x.id) ∧ W.cell? ⟨b, off + k * 3 + 1, none⟩ = some (.int .i64 x.gen) ∧ W.cell? ⟨b, off + k * 3 + 2, none⟩ = some (.int .i64 x.len) := by
  obtain ⟨ao, cap, hv, hc, hcm, hcell⟩ := h
  refine ⟨ao, cap, hv, hc, hcm, fun W hW k x hx => ?_⟩
  obtain ⟨b, off, hb, hlt, hcl⟩ := hcell k x hx
  refine ⟨b, off, hb, hlt, ?_, ?_, ?_⟩
  · rw [hW.cell (p := ⟨b, off + k * 3, none⟩) hlt]; exact hcl 0 _ rfl
  · rw [hW.cell (p := ⟨b, off + k * 3 + 1, none⟩) hlt]; exact hcl 1 _ rfl
  · rw [hW.cell (p := ⟨b, off + k * 3 + 2, none⟩) hlt]; exact hcl 2 _ rfl

theorem one_calls (w : World) (n : Int) : Calls Tryz.prog 111 #[.int .i64 n] w fun e w' => e = .returned (.bool (oneB n)) ∧ w' = w := by
  by_cases h : 1 ≤ n
  · rw [oneB, decide_eq_true h, Bool.true_and]
    go_enter Tryz.func111, Tryz.ntmps111
    go_wp2_with (fail)
    go_ret
    exact ⟨rfl, rfl⟩
  · rw [oneB, decide_eq_false h, Bool.false_and]
    go_enter Tryz.func111, Tryz.ntmps111
    go_wp2_with (fail)
    go_ret
    exact ⟨rfl, rfl⟩

theorem bl_ways (x : Bl) : (oneB x.id = false ∧ okBl x = false) ∨ (oneB x.id = true ∧ oneB x.gen = false ∧ okBl x = false) ∨ (oneB x.id = true ∧ oneB x.gen = true ∧ x.len < 0 ∧ okBl x = false) ∨
    (oneB x.id = true ∧ oneB x.gen = true ∧ ¬ x.len < 0 ∧ 64 < x.len ∧ okBl x = false) ∨ (oneB x.id = true ∧ oneB x.gen = true ∧ ¬ x.len < 0 ∧ ¬ 64 < x.len ∧ okBl x = true) := by
  rw [okBl]
  cases oneB x.id
  · exact .inl ⟨rfl, rfl⟩
  · cases oneB x.gen
    · exact .inr (.inl ⟨rfl, rfl, rfl⟩)
    · by_cases h1 : x.len < 0
      · exact .inr (.inr (.inl ⟨rfl, rfl, h1, by rw [decide_eq_false (by omega : ¬ 0 ≤ x.len)]; rfl⟩))
      · by_cases h2 : 64 < x.len
        · exact .inr (.inr (.inr (.inl ⟨rfl, rfl, h1, h2, by rw [decide_eq_false (by omega : ¬ x.len ≤ 64), Bool.and_false]⟩)))
        · exact .inr (.inr (.inr (.inr ⟨rfl, rfl, h1, h2, by rw [decide_eq_true (by omega : 0 ≤ x.len), decide_eq_true (by omega : x.len ≤ 64)]; rfl⟩)))

set_option maxHeartbeats 2000000 in
theorem odd_calls (w : World) (bt : Nat) (x : Bl) (hc : w.heap[bt]? = some (.cells #[.func (.func 111) #[] #[]] 124 (0, 0))) :
    Calls Tryz.prog 112 #[.agg #[.int .i64 x.id, .int .i64 x.gen, .int .i64 x.len], .pointer (some ⟨bt, 0, none⟩)] w fun e w' => e = .returned (.bool (!okBl x)) ∧ Below w.heap.size w w' := by
  have hcc := cell_of_one hc
  have hbl := lt_of_block hc
  have h1 := fun W => one_calls W x.id
  have h2 := fun W => one_calls W x.gen
  rcases bl_ways x with ⟨c1, hr⟩ | ⟨c1, c2, hr⟩ | ⟨c1, c2, c3, hr⟩ | ⟨c1, c2, c3, c4, hr⟩ | ⟨c1, c2, c3, c4, hr⟩
  · rw [hr]
    rw [c1] at h1
    clear hr c1
    go_enter Tryz.func112, Tryz.ntmps112
    go_wp2_with (fail)
    refine (h1 _).mono ?_
    rintro e w1 ⟨rfl, rfl⟩
    go_wp2_with (fail)
    go_ret
    exact ⟨rfl, (Below.refl _ _).alloc (Nat.le_refl _) _⟩
  all_goals
    rw [hr]
    rw [c1] at h1
    rw [c2] at h2
    clear hr c1 c2
    go_enter Tryz.func112, Tryz.ntmps112
    go_wp2_with (fail)
    refine (h1 _).mono ?_
    rintro e w1 ⟨rfl, rfl⟩
    go_wp2_with (fail)
    refine (h2 _).mono ?_
    rintro e w1 ⟨rfl, rfl⟩
    go_wp2_with (fail)
    go_ret
    first
    | exact ⟨rfl, (Below.refl _ _).alloc (Nat.le_refl _) _⟩
    | exact ⟨ret_bool (by simp; omega), (Below.refl _ _).alloc (Nat.le_refl _) _⟩

def badB (x : Bl) : Bool := !okBl x
structure Sign (b : Bool) (i : Int) : Prop where
  yes : b = true → 0 ≤ i
  no : b = false → i = -1
theorem any_nextB {p : Bl → Bool} {l : List Bl} {k : Nat} {x : Bl} (hx : l[k]? = some x) (h : (l.take k).any p = false) (hp : p x = false) : (l.take (k + 1)).any p = false := by
  rw [List.take_add_one, hx]
  simp only [Option.toList_some, List.any_append, h, List.any_cons, hp, List.any_nil, Bool.or_self]
theorem any_hitB {p : Bl → Bool} {l : List Bl} {k : Nat} {x : Bl} (hx : l[k]? = some x) (hp : p x = true) : l.any p = true := List.any_eq_true.2 ⟨x, List.mem_of_getElem? hx, hp⟩

set_option maxHeartbeats 2000000 in
theorem idxb_calls (w : World) (bt : Nat) (v : Value) (l : List Bl) (hc : w.heap[bt]? = some (.cells #[.func (.func 111) #[] #[]] 124 (0, 0))) (h : Rd w 3 encB v l) (hn : l.length ≤ 8796093022208) :
    Calls Tryz.prog 155 #[v, .func (.func 112) #[] #[.pointer (some ⟨bt, 0, none⟩)]] w fun e w' => (∃ i : Int, e = .returned (.int .i64 i) ∧ Sign (l.any badB) i) ∧ Below w.heap.size w w' := by
  have hbl := lt_of_block hc
  have hod := fun W (hW : Below w.heap.size w W) x => odd_calls W bt x ((hW.block bt hbl).trans hc)
  obtain ⟨ao, cap, rfl, _, _, hcell⟩ := rd_cellsB h
  have Hcell := Lib.hid hcell; have Hod := Lib.hid hod; clear hcell h hod hc
  go_enter Tryz.func155, Tryz.ntmps155
  go_wp2_with (fail)
  go_loopw [8] (fun i wr => ∃ k : Nat, k ≤ l.length ∧ i = .int .i64 k ∧ Below w.heap.size w wr ∧ (l.take k).any badB = false) (fun i _ => l.length - (intOf i).toNat)
  case atStart => exact ⟨0, Nat.zero_le _, rfl, Below.refl _ _, rfl⟩
  case round =>
    obtain ⟨k, hk, rfl, hb, hnone⟩ := hrel
    have Hnone := Lib.hid hnone; clear hnone
    by_cases hlt : k < l.length
    · obtain ⟨x, hx⟩ : ∃ x, l[k]? = some x := ⟨l[k], by simp [hlt]⟩
      obtain ⟨b, off, rfl, hlb, c0, c1, c2⟩ := Hcell.out wr hb k x hx
      have Hx := Lib.hid hx; clear hx
      have hp := Hod.out wr hb x
      cases hbad : badB x
      · rw [show (!okBl x) = false from hbad] at hp
        have Hbad := Lib.hid hbad; clear hbad
        go_wp2_with (fail)
        refine hp.mono ?_
        rintro e w1 ⟨rfl, hb1⟩
        go_wp2_with (fail)
        go_roundw
        case rel => exact ⟨k + 1, by omega, by go_num, hb.trans (hb1.mono hb.size), any_nextB Hx.out Hnone.out Hbad.out⟩
        case measure => simp [intOf]; omega
      · rw [show (!okBl x) = true from hbad] at hp
        have hany := any_hitB Hx.out hbad
        have Hany := Lib.hid hany; clear hbad hany
        go_wp2_with (fail)
        refine hp.mono ?_
        rintro e w1 ⟨rfl, hb1⟩
        go_wp2_with (fail)
        go_ret
        exact ⟨⟨k, rfl, ⟨fun _ => by omega, fun h => (by rw [Hany.out] at h; cases h)⟩⟩, hb.trans (hb1.mono hb.size)⟩
    · obtain rfl : k = l.length := by omega
      have h0 := Hnone.out
      rw [List.take_length] at h0
      have H0 := Lib.hid h0; clear h0
      go_wp2_with (fail)
      go_ret
      exact ⟨⟨-1, rfl, ⟨fun h => (by rw [H0.out] at h; cases h), fun _ => rfl⟩⟩, hb⟩

theorem hasb_calls (w : World) (bt : Nat) (v : Value) (l : List Bl) (hc : w.heap[bt]? = some (.cells #[.func (.func 111) #[] #[]] 124 (0, 0))) (h : Rd w 3 encB v l) (hn : l.length ≤ 8796093022208) :
    Calls Tryz.prog 113 #[v, .func (.func 112) #[] #[.pointer (some ⟨bt, 0, none⟩)]] w fun e w' => e = .returned (.bool (l.any badB)) ∧ Below w.heap.size w w' := by
  have hi := idxb_calls w bt v l hc h hn
  obtain ⟨ao, cap, rfl, _, _, _⟩ := rd_cellsB h
  cases ha : l.any badB
  · rw [ha] at hi
    clear ha h hc
    go_enter Tryz.func113, Tryz.ntmps113
    go_wp2_with (fail)
    refine hi.mono ?_
    rintro e w1 ⟨⟨i, rfl, hs⟩, hb1⟩
    obtain rfl := hs.no rfl
    go_wp2_with (fail)
    go_ret
    exact ⟨rfl, hb1⟩
  · rw [ha] at hi
    clear ha h hc
    go_enter Tryz.func113, Tryz.ntmps113
    go_wp2_with (fail)
    refine hi.mono ?_
    rintro e w1 ⟨⟨i, rfl, hs⟩, hb1⟩
    have hi0 := hs.yes rfl
    go_wp2_with (fail)
    go_ret
    exact ⟨rfl, hb1⟩
end Go.Proofs.YtdfckkadmgmcaaaGreatDoor.Tree

/- Trees: tree.Fits. -/
namespace Go.Proofs.YtdfckkadmgmcaaaGreatDoor.Tree
open Go.RowKit
open Path (Bs bs mk bs_mk mk_bs tl_bs splitE splitL MaxC)
set_option linter.unusedSimpArgs false
set_option linter.unusedVariables false

/-- Which way a node goes. -/
theorem fits_ways (x : Nd) :
    ((splitE (bs x.path) != 0) = true ∧ fitsN x = false) ∨
    (splitE (bs x.path) = 0 ∧ x.quota < -1 ∧ fitsN x = false) ∨
    (splitE (bs x.path) = 0 ∧ ¬ x.quota < -1 ∧ x.writer < -1 ∧ fitsN x = false) ∨
    (splitE (bs x.path) = 0 ∧ ¬ x.quota < -1 ∧ ¬ x.writer < -1 ∧ x.dir = true ∧ ((x.blocks.length : Int) == 0) = false ∧ fitsN x = false) ∨
    (splitE (bs x.path) = 0 ∧ ¬ x.quota < -1 ∧ ¬ x.writer < -1 ∧ x.dir = true ∧ ((x.blocks.length : Int) == 0) = true ∧ (x.writer == -1) = false ∧ fitsN x = false) ∨
    (splitE (bs x.path) = 0 ∧ ¬ x.quota < -1 ∧ ¬ x.writer < -1 ∧ x.dir = true ∧ ((x.blocks.length : Int) == 0) = true ∧ (x.writer == -1) = true ∧ fitsN x = decide (x.quota ≤ 9007199254740991)) ∨
    (splitE (bs x.path) = 0 ∧ ¬ x.quota < -1 ∧ ¬ x.writer < -1 ∧ x.dir = false ∧ (x.path.toList == [47]) = true ∧ fitsN x = false) ∨
    (splitE (bs x.path) = 0 ∧ ¬ x.quota < -1 ∧ ¬ x.writer < -1 ∧ x.dir = false ∧ (x.path.toList == [47]) = false ∧ (x.quota == -1) = false ∧ fitsN x = false) ∨
    (splitE (bs x.path) = 0 ∧ ¬ x.quota < -1 ∧ ¬ x.writer < -1 ∧ x.dir = false ∧ (x.path.toList == [47]) = false ∧ (x.quota == -1) = true ∧ ¬ x.writer < 4 ∧ fitsN x = false) ∨
    (splitE (bs x.path) = 0 ∧ ¬ x.quota < -1 ∧ ¬ x.writer < -1 ∧ x.dir = false ∧ (x.path.toList == [47]) = false ∧ (x.quota == -1) = true ∧ x.writer < 4 ∧ ¬ (x.blocks.length : Int) ≤ 8 ∧ fitsN x = false) ∨
    (splitE (bs x.path) = 0 ∧ ¬ x.quota < -1 ∧ ¬ x.writer < -1 ∧ x.dir = false ∧ (x.path.toList == [47]) = false ∧ (x.quota == -1) = true ∧ x.writer < 4 ∧ (x.blocks.length : Int) ≤ 8 ∧ fitsN x = !(x.blocks.any badB)) := by
  rw [tl_bs]
  by_cases h1 : splitE (bs x.path) = 0
  · by_cases h2 : x.quota < -1
    · exact .inr (.inl ⟨h1, h2, by rw [fitsN, decide_eq_false (by omega : ¬ -1 ≤ x.quota)]; simp⟩)
    · by_cases h3 : x.writer < -1
      · exact .inr (.inr (.inl ⟨h1, h2, h3, by rw [fitsN, decide_eq_false (by omega : ¬ -1 ≤ x.writer)]; simp⟩))
      · have hf : fitsN x = (if x.dir = true then decide (x.blocks.length = 0) && decide (x.writer = -1) && decide (x.quota ≤ 9007199254740991) else !(bs x.path == [47]) && decide (x.quota = -1) && decide (x.writer < 4) && decide (x.blocks.length ≤ 8) && x.blocks.all okBl) := by
          rw [fitsN, decide_eq_true h1, decide_eq_true (by omega : -1 ≤ x.quota), decide_eq_true (by omega : -1 ≤ x.writer)]; rfl
        rw [hf]
        cases hd : x.dir
        · rw [if_neg (by simp)]
          cases h4 : (bs x.path == [47])
          · by_cases h5 : x.quota = -1
            · by_cases h6 : x.writer < 4
              · by_cases h7 : (x.blocks.length : Int) ≤ 8
                · refine .inr (.inr (.inr (.inr (.inr (.inr (.inr (.inr (.inr (.inr ⟨h1, h2, h3, rfl, rfl, beq_iff_eq.2 h5, h6, h7, ?_⟩)))))))))
                  rw [decide_eq_true h5, decide_eq_true h6, decide_eq_true (by omega : x.blocks.length ≤ 8)]
                  simp only [Bool.not_false, Bool.and_true, Bool.true_and]
                  rw [List.all_eq_not_any_not]
                  rfl
                · exact .inr (.inr (.inr (.inr (.inr (.inr (.inr (.inr (.inr (.inl ⟨h1, h2, h3, rfl, rfl, beq_iff_eq.2 h5, h6, h7, by rw [decide_eq_false (by omega : ¬ x.blocks.length ≤ 8)]; simp⟩)))))))))
              · exact .inr (.inr (.inr (.inr (.inr (.inr (.inr (.inr (.inl ⟨h1, h2, h3, rfl, rfl, beq_iff_eq.2 h5, h6, by rw [decide_eq_false h6]; simp⟩))))))))
            · exact .inr (.inr (.inr (.inr (.inr (.inr (.inr (.inl ⟨h1, h2, h3, rfl, rfl, beq_false_of_ne h5, by rw [decide_eq_false h5]; simp⟩)))))))
          · exact .inr (.inr (.inr (.inr (.inr (.inr (.inl ⟨h1, h2, h3, rfl, rfl, by simp⟩))))))
        · rw [if_pos rfl]
          by_cases h4 : x.blocks.length = 0
          · by_cases h5 : x.writer = -1
            · exact .inr (.inr (.inr (.inr (.inr (.inl ⟨h1, h2, h3, rfl, beq_iff_eq.2 (by omega), beq_iff_eq.2 h5, by rw [decide_eq_true h4, decide_eq_true h5]; rfl⟩)))))
            · exact .inr (.inr (.inr (.inr (.inl ⟨h1, h2, h3, rfl, beq_iff_eq.2 (by omega), beq_false_of_ne h5, by rw [decide_eq_false h5]; simp⟩))))
          · exact .inr (.inr (.inr (.inl ⟨h1, h2, h3, rfl, beq_false_of_ne (by omega), by rw [decide_eq_false h4]; simp⟩)))
  · exact .inl ⟨bne_iff_ne.2 h1, by rw [fitsN, decide_eq_false h1]; rfl⟩

set_option maxRecDepth 4000 in
set_option maxHeartbeats 8000000 in
theorem fits_calls (w : World) (x : Nd) (hB : Rd w 3 encB x.bv x.blocks) (hM : MaxC w) :
    Calls Tryz.prog 64 #[.agg #[.string x.path, .bool x.dir, .int .i64 x.quota, x.bv, .int .i64 x.writer]] w fun e w' => e = .returned (.bool (fitsN x)) ∧ Below w.heap.size w w' := by
  have h1 := fun W (hW : Below w.heap.size w W) => Path.split_calls W x.path (hM.below hW)
  have hbl := fun W (hW : Below w.heap.size w W) => hB.below hW (Nat.le_refl _)
  have ways := fits_ways x
  obtain ⟨ao, cap, hbv, hcap, _, _⟩ := rd_cellsB hB
  rw [hbv] at hbl ⊢
  generalize fitsN x = r at *
  generalize splitE (bs x.path) = E at *
  generalize splitL (bs x.path) = L at *
  generalize x.path = P at *
  generalize x.dir = D at *
  generalize x.quota = Q at *
  generalize x.writer = Wr at *
  generalize x.blocks = B at *
  clear hB hbv hM
  have H1 := Lib.hid h1; have Hbl := Lib.hid hbl; clear h1 hbl
  have hb0 : Below w.heap.size w (w.alloc (.cells #[.string P, .bool D, .int .i64 Q, .slice ao B.length cap, .int .i64 Wr] 35)) := (Below.refl _ _).alloc (Nat.le_refl _) _
  have Hb0 := Lib.hid hb0; clear hb0
  rcases ways with ⟨c1, rfl⟩ | ⟨rfl, c2, rfl⟩ | ⟨rfl, c2, c3, rfl⟩ | ⟨rfl, c2, c3, rfl, c4, rfl⟩ | ⟨rfl, c2, c3, rfl, c4, c5, rfl⟩ | ⟨rfl, c2, c3, rfl, c4, c5, rfl⟩ | ⟨rfl, c2, c3, rfl, c4, rfl⟩ | ⟨rfl, c2, c3, rfl, c4, c5, rfl⟩ | ⟨rfl, c2, c3, rfl, c4, c5, c6, rfl⟩ | ⟨rfl, c2, c3, rfl, c4, c5, c6, c7, rfl⟩ | ⟨rfl, c2, c3, rfl, c4, c5, c6, c7, rfl⟩
  all_goals
    go_enter Tryz.func64, Tryz.ntmps64
    go_wp2_with (fail)
    refine (H1.out _ Hb0.out).mono ?_
    rintro e w1 ⟨v1, rfl, _, hb1⟩
    have hk := (hb1.block w.heap.size (by simp)).trans (heap_alloc_new w _)
    have hB1 := Hb0.out.trans (hb1.mono Hb0.out.size)
    have hz1 := hB1.size
    have k0 := cell_of_blk (j := 0) hk
    have k1 := cell_of_blk (j := 1) hk
    have k2 := cell_of_blk (j := 2) hk
    have k3 := cell_of_blk (j := 3) hk
    have k4 := cell_of_blk (j := 4) hk
    simp only [List.getElem?_toArray, List.getElem?_cons_zero, List.getElem?_cons_succ] at k0 k1 k2 k3 k4
    have hlt1 := lt_of_block hk
    clear hk hb1
  rotate_right
  focus
    have c4' : (P.toList != [47]) = true := by rw [bne, c4]; rfl
    have hh := hasb_calls (w1.alloc (.cells #[.func (.func 111) #[] #[]] 124)) w1.heap.size (.slice ao B.length cap) B (heap_alloc_new w1 _) (Hbl.out _ (hB1.alloc hz1 _)) (by omega)
    have hB2 := hB1.alloc hz1 (.cells #[.func (.func 111) #[] #[]] 124)
    have hz2 := hB2.size
    go_wp2_with (fail)
    refine hh.mono ?_
    rintro e w2 ⟨rfl, hb2⟩
    cases hany : B.any badB
    · go_wp2_with (fail)
      go_ret
      exact ⟨ret_bool (by rw [hany]; rfl), hB2.trans (hb2.mono hz2)⟩
    · go_wp2_with (fail)
      go_ret
      exact ⟨ret_bool (by rw [hany]; rfl), hB2.trans (hb2.mono hz2)⟩
  all_goals
    try have c4' : (P.toList != [47]) = !(P.toList == [47]) := rfl
    try rw [c4] at c4'
    go_wp2_with (fail)
    go_ret
    first
    | exact ⟨rfl, hB1⟩
    | exact ⟨rfl, hB1.alloc hz1 _⟩
    | exact ⟨ret_bool (by simp; omega), hB1⟩
    | exact ⟨ret_bool (by simp; omega), hB1.alloc hz1 _⟩
end Go.Proofs.YtdfckkadmgmcaaaGreatDoor.Tree

/- Trees: the document's Fits. -/
namespace Go.Proofs.YtdfckkadmgmcaaaGreatDoor.Tree
open Go.RowKit
open Path (Bs bs mk bs_mk mk_bs tl_bs splitE splitL MaxC)
set_option linter.unusedSimpArgs false
set_option linter.unusedVariables false

theorem bl_ways2 (x : Bl) : (x.id < 1 ∧ okBl x = false) ∨ (¬ x.id < 1 ∧ 9007199254740991 < x.id ∧ okBl x = false) ∨ (¬ x.id < 1 ∧ ¬ 9007199254740991 < x.id ∧ x.gen < 1 ∧ okBl x = false) ∨
    (¬ x.id < 1 ∧ ¬ 9007199254740991 < x.id ∧ ¬ x.gen < 1 ∧ 9007199254740991 < x.gen ∧ okBl x = false) ∨ (¬ x.id < 1 ∧ ¬ 9007199254740991 < x.id ∧ ¬ x.gen < 1 ∧ ¬ 9007199254740991 < x.gen ∧ x.len < 0 ∧ okBl x = false) ∨
    (¬ x.id < 1 ∧ ¬ 9007199254740991 < x.id ∧ ¬ x.gen < 1 ∧ ¬ 9007199254740991 < x.gen ∧ ¬ x.len < 0 ∧ 64 < x.len ∧ okBl x = false) ∨
    (¬ x.id < 1 ∧ ¬ 9007199254740991 < x.id ∧ ¬ x.gen < 1 ∧ ¬ 9007199254740991 < x.gen ∧ ¬ x.len < 0 ∧ ¬ 64 < x.len ∧ okBl x = true) := by
  have hiff : okBl x = true ↔ (1 ≤ x.id ∧ x.id ≤ 9007199254740991) ∧ (1 ≤ x.gen ∧ x.gen ≤ 9007199254740991) ∧ 0 ≤ x.len ∧ x.len ≤ 64 := by
    simp only [okBl, oneB, Bool.and_eq_true, decide_eq_true_eq, and_assoc]
  cases h : okBl x
  · have hn : ¬ ((1 ≤ x.id ∧ x.id ≤ 9007199254740991) ∧ (1 ≤ x.gen ∧ x.gen ≤ 9007199254740991) ∧ 0 ≤ x.len ∧ x.len ≤ 64) := fun hh => by
      have := hiff.2 hh; rw [h] at this; cases this
    simp only [and_true, Bool.false_eq_true, and_false, or_false]
    omega
  · have := hiff.1 h
    simp only [and_true, Bool.true_eq_false, and_false, false_or]
    omega

theorem rfits_ways (x : Nd) :
    ((splitE (bs x.path) != 0) = true ∧ fitsN x = false) ∨
    (splitE (bs x.path) = 0 ∧ x.dir = true ∧ ((x.blocks.length : Int) == 0) = false ∧ fitsN x = false) ∨
    (splitE (bs x.path) = 0 ∧ x.dir = true ∧ ((x.blocks.length : Int) == 0) = true ∧ (x.writer == -1) = false ∧ fitsN x = false) ∨
    (splitE (bs x.path) = 0 ∧ x.dir = true ∧ ((x.blocks.length : Int) == 0) = true ∧ (x.writer == -1) = true ∧ ¬ -1 ≤ x.quota ∧ fitsN x = false) ∨
    (splitE (bs x.path) = 0 ∧ x.dir = true ∧ ((x.blocks.length : Int) == 0) = true ∧ (x.writer == -1) = true ∧ -1 ≤ x.quota ∧ fitsN x = decide (x.quota ≤ 9007199254740991)) ∨
    (splitE (bs x.path) = 0 ∧ x.dir = false ∧ (x.path.toList == [47]) = true ∧ fitsN x = false) ∨
    (splitE (bs x.path) = 0 ∧ x.dir = false ∧ (x.path.toList == [47]) = false ∧ (x.quota != -1) = true ∧ fitsN x = false) ∨
    (splitE (bs x.path) = 0 ∧ x.dir = false ∧ (x.path.toList == [47]) = false ∧ (x.quota != -1) = false ∧ x.writer < -1 ∧ fitsN x = false) ∨
    (splitE (bs x.path) = 0 ∧ x.dir = false ∧ (x.path.toList == [47]) = false ∧ (x.quota != -1) = false ∧ ¬ x.writer < -1 ∧ 4 ≤ x.writer ∧ fitsN x = false) ∨
    (splitE (bs x.path) = 0 ∧ x.dir = false ∧ (x.path.toList == [47]) = false ∧ (x.quota != -1) = false ∧ ¬ x.writer < -1 ∧ ¬ 4 ≤ x.writer ∧ 8 < (x.blocks.length : Int) ∧ fitsN x = false) ∨
    (splitE (bs x.path) = 0 ∧ x.dir = false ∧ (x.path.toList == [47]) = false ∧ (x.quota != -1) = false ∧ ¬ x.writer < -1 ∧ ¬ 4 ≤ x.writer ∧ ¬ 8 < (x.blocks.length : Int) ∧ fitsN x = !(x.blocks.any badB)) := by
  have hne : ∀ a : Int, (a == -1) = true → (a != -1) = false := fun a h => by rw [bne, h]; rfl
  rcases fits_ways x with ⟨c1, r⟩ | ⟨c1, c2, r⟩ | ⟨c1, c2, c3, r⟩ | ⟨c1, c2, c3, d, c4, r⟩ | ⟨c1, c2, c3, d, c4, c5, r⟩ | ⟨c1, c2, c3, d, c4, c5, r⟩ | ⟨c1, c2, c3, d, c4, r⟩ | ⟨c1, c2, c3, d, c4, c5, r⟩ | ⟨c1, c2, c3, d, c4, c5, c6, r⟩ | ⟨c1, c2, c3, d, c4, c5, c6, c7, r⟩ | ⟨c1, c2, c3, d, c4, c5, c6, c7, r⟩
  · exact .inl ⟨c1, r⟩
  · cases hd : x.dir
    · cases hp : (x.path.toList == [47])
      · exact .inr (.inr (.inr (.inr (.inr (.inr (.inl ⟨c1, rfl, rfl, bne_iff_ne.2 (by omega), r⟩))))))
      · exact .inr (.inr (.inr (.inr (.inr (.inl ⟨c1, rfl, rfl, r⟩)))))
    · cases h4 : ((x.blocks.length : Int) == 0)
      · exact .inr (.inl ⟨c1, rfl, rfl, r⟩)
      · cases h5 : (x.writer == -1)
        · exact .inr (.inr (.inl ⟨c1, rfl, rfl, rfl, r⟩))
        · exact .inr (.inr (.inr (.inl ⟨c1, rfl, rfl, rfl, by omega, r⟩)))
  · cases hd : x.dir
    · cases hp : (x.path.toList == [47])
      · cases h6 : (x.quota != -1)
        · exact .inr (.inr (.inr (.inr (.inr (.inr (.inr (.inl ⟨c1, rfl, rfl, rfl, c3, r⟩)))))))
        · exact .inr (.inr (.inr (.inr (.inr (.inr (.inl ⟨c1, rfl, rfl, rfl, r⟩))))))
      · exact .inr (.inr (.inr (.inr (.inr (.inl ⟨c1, rfl, rfl, r⟩)))))
    · cases h4 : ((x.blocks.length : Int) == 0)
      · exact .inr (.inl ⟨c1, rfl, rfl, r⟩)
      · exact .inr (.inr (.inl ⟨c1, rfl, rfl, beq_false_of_ne (by omega), r⟩))
  · exact .inr (.inl ⟨c1, d, c4, r⟩)
  · exact .inr (.inr (.inl ⟨c1, d, c4, c5, r⟩))
  · exact .inr (.inr (.inr (.inr (.inl ⟨c1, d, c4, c5, by omega, r⟩))))
  · exact .inr (.inr (.inr (.inr (.inr (.inl ⟨c1, d, c4, r⟩)))))
  · exact .inr (.inr (.inr (.inr (.inr (.inr (.inl ⟨c1, d, c4, by rw [bne, c5]; rfl, r⟩))))))
  · exact .inr (.inr (.inr (.inr (.inr (.inr (.inr (.inr (.inl ⟨c1, d, c4, hne _ c5, c3, by omega, r⟩))))))))
  · exact .inr (.inr (.inr (.inr (.inr (.inr (.inr (.inr (.inr (.inl ⟨c1, d, c4, hne _ c5, c3, by omega, by omega, r⟩)))))))))
  · exact .inr (.inr (.inr (.inr (.inr (.inr (.inr (.inr (.inr (.inr ⟨c1, d, c4, hne _ c5, c3, by omega, by omega, r⟩)))))))))

set_option maxRecDepth 4000 in
set_option maxHeartbeats 8000000 in
theorem rfits_calls (w : World) (x : Nd) (hB : Rd w 3 encB x.bv x.blocks) :
    Calls Tryz.prog 109 #[.agg #[.string x.path, .bool x.dir, .int .i64 x.quota, x.bv, .int .i64 x.writer]] w fun e w' => e = .returned (.bool (fitsN x)) ∧ Below w.heap.size w w' := by
  have h1 := fun W => Path.rsplit_calls W x.path
  have ways := rfits_ways x
  obtain ⟨ao, cap, hbv, hcap, _, hcell⟩ := rd_cellsB hB
  rw [hbv]
  generalize fitsN x = r at *
  generalize splitE (bs x.path) = E at *
  generalize splitL (bs x.path) = L at *
  generalize x.path = P at *
  generalize x.dir = D at *
  generalize x.quota = Q at *
  generalize x.writer = Wr at *
  generalize x.blocks = B at *
  clear hB hbv
  have H1 := Lib.hid h1; have Hcell := Lib.hid hcell; clear h1 hcell
  have hb0 : Below w.heap.size w (w.alloc (.cells #[.string P, .bool D, .int .i64 Q, .slice ao B.length cap, .int .i64 Wr] 35)) := (Below.refl _ _).alloc (Nat.le_refl _) _
  have Hb0 := Lib.hid hb0; clear hb0
  rcases ways with ⟨c1, rfl⟩ | ⟨rfl, rfl, c4, rfl⟩ | ⟨rfl, rfl, c4, c5, rfl⟩ | ⟨rfl, rfl, c4, c5, c6, rfl⟩ | ⟨rfl, rfl, c4, c5, c6, rfl⟩ | ⟨rfl, rfl, c4, rfl⟩ | ⟨rfl, rfl, c4, c5, rfl⟩ | ⟨rfl, rfl, c4, c5, c6, rfl⟩ | ⟨rfl, rfl, c4, c5, c6, c7, rfl⟩ | ⟨rfl, rfl, c4, c5, c6, c7, c8, rfl⟩ | ⟨rfl, rfl, c4, c5, c6, c7, c8, rfl⟩
  all_goals
    go_enter Tryz.func109, Tryz.ntmps109
    go_wp2_with (fail)
    refine (H1.out _).mono ?_
    rintro e w1 ⟨v1, rfl, _, hb1⟩
    have hk := (hb1.block w.heap.size (by simp)).trans (heap_alloc_new w _)
    have hB1 := Hb0.out.trans (hb1.mono Hb0.out.size)
    have hz1 := hB1.size
    have k0 := cell_of_blk (j := 0) hk
    have k1 := cell_of_blk (j := 1) hk
    have k2 := cell_of_blk (j := 2) hk
    have k3 := cell_of_blk (j := 3) hk
    have k4 := cell_of_blk (j := 4) hk
    simp only [List.getElem?_toArray, List.getElem?_cons_zero, List.getElem?_cons_succ] at k0 k1 k2 k3 k4
    have hlt1 := lt_of_block hk
    have Hk := Lib.hid hk
    clear hk hb1
  rotate_right
  focus
    have hB8 : B.length ≤ 8 := by omega
    go_wp2_with (fail)
    clear k0 k1 k2 k3 k4
    go_loopw [5] (fun vk wr => ∃ k : Nat, vk = .int .i64 k ∧ k ≤ B.length ∧ (B.take k).any badB = false ∧ Below w1.heap.size w1 wr) (fun vk _ => B.length - (intOf vk).toNat)
    case atStart => exact ⟨0, rfl, Nat.zero_le _, rfl, Below.refl _ _⟩
    case round =>
      obtain ⟨k, rfl, hk, hnone, hb⟩ := hrel
      have Hnone := Lib.hid hnone; clear hnone
      have hbw := hB1.trans (hb.mono hz1)
      have hszr := hb.size
      have hkr := (hb.block w.heap.size hlt1).trans Hk.out
      have k3 := cell_of_blk (j := 3) hkr
      simp only [List.getElem?_toArray, List.getElem?_cons_zero, List.getElem?_cons_succ] at k3
      have hltr : w.heap.size < wr.heap.size := by omega
      clear hkr
      by_cases hlt : k < B.length
      · obtain ⟨x, hx⟩ : ∃ x, B[k]? = some x := ⟨B[k], by simp [hlt]⟩
        obtain ⟨b, off, rfl, hlb, d0, d1, d2⟩ := Hcell.out wr hbw k x hx
        have hbr : b < wr.heap.size := by omega
        have Hx := Lib.hid hx; clear hx
        have hend := hb.alloc hszr (.cells #[.int .i64 x.id, .int .i64 x.gen, .int .i64 x.len] 31)
        have Hend := Lib.hid hend; clear hend
        have e0 : (wr.alloc (.cells #[.int .i64 x.id, .int .i64 x.gen, .int .i64 x.len] 31)).cell? ⟨wr.heap.size, 0, none⟩ = some (.int .i64 x.id) := cell_of_blk (j := 0) (heap_alloc_new wr _)
        have e1 : (wr.alloc (.cells #[.int .i64 x.id, .int .i64 x.gen, .int .i64 x.len] 31)).cell? ⟨wr.heap.size, 1, none⟩ = some (.int .i64 x.gen) := cell_of_blk (j := 1) (heap_alloc_new wr _)
        have e2 : (wr.alloc (.cells #[.int .i64 x.id, .int .i64 x.gen, .int .i64 x.len] 31)).cell? ⟨wr.heap.size, 2, none⟩ = some (.int .i64 x.len) := cell_of_blk (j := 2) (heap_alloc_new wr _)
        rcases bl_ways2 x with ⟨m1, hr⟩ | ⟨m1, m2, hr⟩ | ⟨m1, m2, m3, hr⟩ | ⟨m1, m2, m3, m4, hr⟩ | ⟨m1, m2, m3, m4, m5, hr⟩ | ⟨m1, m2, m3, m4, m5, m6, hr⟩ | ⟨m1, m2, m3, m4, m5, m6, hr⟩
        rotate_right
        focus
          have hnx := any_nextB (p := badB) Hx.out Hnone.out (by rw [badB, hr]; rfl)
          have Hnx := Lib.hid hnx; clear hnx hr
          go_wp2_with (fail)
          go_roundw
          case rel => exact ⟨k + 1, by go_num, by omega, Hnx.out, Hend.out⟩
          case measure => simp [intOf]; omega
        all_goals
          have hany := any_hitB (p := badB) Hx.out (by rw [badB, hr]; rfl)
          have Hany := Lib.hid hany; clear hany hr
          go_wp2_with (fail)
          go_ret
          refine ⟨ret_bool (by rw [Hany.out]; rfl), ?_⟩
          exact hB1.trans (Hend.out.mono hz1)
      · obtain rfl : k = B.length := by omega
        have h0 := Hnone.out
        rw [List.take_length] at h0
        have H0 := Lib.hid h0; clear h0
        go_wp2_with (fail)
        go_ret
        exact ⟨ret_bool (by rw [H0.out]; rfl), hbw⟩
  all_goals
    go_wp2_with (fail)
    go_ret
    first
    | exact ⟨rfl, hB1⟩
    | exact ⟨ret_bool (by simp; omega), hB1⟩
end Go.Proofs.YtdfckkadmgmcaaaGreatDoor.Tree

/- Trees: the order of texts; rows of nodes; where a path stands (tree.at). -/
namespace Go.Proofs.YtdfckkadmgmcaaaGreatDoor.Tree
open Go.RowKit
open Path (Bs bs mk bs_mk mk_bs tl_bs splitE splitL MaxC)
set_option linter.unusedSimpArgs false
set_option linter.unusedVariables false

def ltB (a b : Bs) : Bool := Op.bytesLess a b
theorem lt_irr : ∀ a : Bs, ltB a a = false
  | [] => rfl
  | x :: a => by
    have := lt_irr a
    simp only [ltB, Op.bytesLess] at this ⊢
    simp [this]
theorem lt_tri : ∀ a b : Bs, ltB a b = true ∨ a = b ∨ ltB b a = true
  | [], [] => .inr (.inl rfl)
  | [], _ :: _ => .inl rfl
  | _ :: _, [] => .inr (.inr rfl)
  | x :: a, y :: b => by
    simp only [ltB, Op.bytesLess]
    by_cases h1 : x < y
    · left; simp [h1]
    · by_cases h2 : x = y
      · subst h2
        rcases lt_tri a b with h | h | h
        · left; simp only [ltB] at h; simp [h]
        · right; left; rw [h]
        · right; right; simp only [ltB] at h; simp [h]
      · right; right
        have : y < x := UInt8.lt_of_le_of_ne (UInt8.not_lt.1 h1) (fun e => h2 e.symm)
        simp [this]
theorem lt_trans : ∀ a b c : Bs, ltB a b = true → ltB b c = true → ltB a c = true
  | _, _, [], _, h => by simp only [ltB] at h; rename_i b _ ; cases b <;> cases h
  | [], _, _ :: _, _, _ => rfl
  | x :: a, [], _ :: _, h, _ => by cases h
  | x :: a, y :: b, z :: c, h1, h2 => by
    simp only [ltB, Op.bytesLess, Bool.or_eq_true, Bool.and_eq_true, decide_eq_true_eq, beq_iff_eq] at h1 h2 ⊢
    rcases h1 with h1 | ⟨rfl, h1⟩
    · rcases h2 with h2 | ⟨rfl, h2⟩
      · exact .inl (UInt8.lt_trans h1 h2)
      · exact .inl h1
    · rcases h2 with h2 | ⟨rfl, h2⟩
      · exact .inl h2
      · exact .inr ⟨rfl, lt_trans a b c h1 h2⟩
theorem lt_asym {a b : Bs} (h : ltB a b = true) : ltB b a = false := by
  rw [Bool.eq_false_iff]
  intro h2
  have := lt_trans _ _ _ h h2
  rw [lt_irr] at this; cases this
theorem lt_ne {a b : Bs} (h : ltB a b = true) : a ≠ b := fun e => by rw [e, lt_irr] at h; cases h
theorem cmp_lt : ∀ a b : Bs, Lib.compareBytes a b = if ltB a b = true then -1 else if a = b then 0 else 1
  | [], [] => rfl
  | [], _ :: _ => rfl
  | _ :: _, [] => rfl
  | x :: a, y :: b => by
    have ih := cmp_lt a b
    simp only [ltB] at ih
    rw [Lib.compareBytes, ih]
    simp only [ltB, Op.bytesLess]
    by_cases h1 : x < y
    · simp [h1]
    · by_cases h2 : x = y
      · subst h2
        by_cases h3 : Op.bytesLess a b = true
        · simp [h3]
        · rw [Bool.not_eq_true] at h3
          by_cases h4 : a = b <;> simp [h3, h4]
      · have : y < x := UInt8.lt_of_le_of_ne (UInt8.not_lt.1 h1) (fun e => h2 e.symm)
        simp [h1, h2, this]

/-- A row of nodes, with their blocks. -/
structure RdN (w : World) (v : Value) (l : List Nd) : Prop where
  rd : Rd w 5 encN v l
  bl : ∀ x ∈ l, Rd w 3 encB x.bv x.blocks
theorem RdN.below {w w' : World} {v : Value} {l : List Nd} (h : RdN w v l) (hb : Below w.heap.size w w') : RdN w' v l :=
  ⟨h.rd.below hb (Nat.le_refl _), fun x hx => (h.bl x hx).below hb (Nat.le_refl _)⟩
theorem rd_cellsN {w : World} {v : Value} {l : List Nd} (h : Rd w 5 encN v l) : ∃ ao cap, v = .slice ao l.length cap ∧ l.length ≤ cap ∧ cap ≤ maxLen ∧ ∀ W, Below w.heap.size w W → ∀ k x, l[k]? = some x →
    ∃ b off, ao = some ⟨b, off, none⟩ ∧ b < w.heap.size ∧ W.cell? ⟨b, off + k * 5, none⟩ = some (.string x.path) ∧ W.cell? ⟨b, off + k * 5 + 1, none⟩ = some (.bool x.dir) ∧ W.cell? ⟨b, off + k * 5 + 2, none⟩ = some (.int .i64 x.quota) ∧ W.cell? ⟨b, off + k * 5 + 3, none⟩ = some x.bv ∧ W.cell? ⟨b, off + k * 5 + 4, none⟩ = some (.int .i64 x.writer) := by
  obtain ⟨ao, cap, hv, hc, hcm, hcell⟩ := h
  refine ⟨ao, cap, hv, hc, hcm, fun W hW k x hx => ?_⟩
  obtain ⟨b, off, hb, hlt, hcl⟩ := hcell k x hx
  refine ⟨b, off, hb, hlt, ?_, ?_, ?_, ?_, ?_⟩
  · rw [hW.cell (p := ⟨b, off + k * 5, none⟩) hlt]; exact hcl 0 _ rfl
  · rw [hW.cell (p := ⟨b, off + k * 5 + 1, none⟩) hlt]; exact hcl 1 _ rfl
  · rw [hW.cell (p := ⟨b, off + k * 5 + 2, none⟩) hlt]; exact hcl 2 _ rfl
  · rw [hW.cell (p := ⟨b, off + k * 5 + 3, none⟩) hlt]; exact hcl 3 _ rfl
  · rw [hW.cell (p := ⟨b, off + k * 5 + 4, none⟩) hlt]; exact hcl 4 _ rfl
theorem bv_slice {w : World} {x : Nd} (h : Rd w 3 encB x.bv x.blocks) : ∃ ao cap, x.bv = .slice ao x.blocks.length cap := by
  obtain ⟨ao, cap, hv, _⟩ := rd_cellsB h
  exact ⟨ao, cap, hv⟩

theorem by_calls (w : World) (x : Nd) (key : ByteArray) (hx : Rd w 3 encB x.bv x.blocks) :
    Calls Tryz.prog 157 #[.agg #[.string x.path, .bool x.dir, .int .i64 x.quota, x.bv, .int .i64 x.writer], .string key] w fun e w' => e = .returned (.int .i64 (Lib.compareBytes (bs x.path) (bs key))) ∧ Below w.heap.size w w' := by
  obtain ⟨ao, cap, hv⟩ := bv_slice hx
  rw [hv]
  have hc := fun W => Tryz.strings_Compare x.path key W
  clear hx hv
  go_enter Tryz.func157, Tryz.ntmps157
  go_wp2_with (fail)
  refine (hc _).mono ?_
  rintro e w1 ⟨rfl, rfl⟩
  go_wp2_with (fail)
  go_ret
  exact ⟨rfl, (Below.refl _ _).alloc (Nat.le_refl _) _⟩

/-- The paths rise. -/
def Rises (l : List Nd) : Prop := l.Pairwise fun x y => ltB (bs x.path) (bs y.path) = true
def idxN (key : ByteArray) (l : List Nd) : Nat := l.findIdx fun x => !ltB (bs x.path) (bs key)
def hasN (key : ByteArray) (l : List Nd) : Bool := l.any fun x => bs x.path == bs key
theorem idx_at {key : ByteArray} {l : List Nd} {i : Nat} (hi : i ≤ l.length) (h1 : ∀ p x, p < i → l[p]? = some x → ltB (bs x.path) (bs key) = true) (h2 : ∀ p x, i ≤ p → l[p]? = some x → ltB (bs x.path) (bs key) = false) : idxN key l = i := by
  by_cases hlt : i < l.length
  · rw [idxN, List.findIdx_eq hlt]
    refine ⟨by rw [h2 i l[i] (Nat.le_refl _) (by simp [hlt])]; rfl, fun j hj => by rw [h1 j l[j] hj (by simp)]; rfl⟩
  · have e : i = l.length := by omega
    subst e
    rw [idxN, List.findIdx_eq_length]
    intro x hx
    obtain ⟨p, hp, rfl⟩ := List.mem_iff_getElem.1 hx
    rw [h1 p l[p] hp (by simp [hp])]; rfl
theorem rises_get {l : List Nd} (h : Rises l) {p q : Nat} {x y : Nd} (hp : l[p]? = some x) (hq : l[q]? = some y) (hlt : p < q) : ltB (bs x.path) (bs y.path) = true := by
  obtain ⟨hp1, rfl⟩ := List.getElem?_eq_some_iff.1 hp
  obtain ⟨hq1, rfl⟩ := List.getElem?_eq_some_iff.1 hq
  exact List.pairwise_iff_getElem.1 h p q hp1 hq1 hlt
end Go.Proofs.YtdfckkadmgmcaaaGreatDoor.Tree

/- Trees: slices.BinarySearchFunc over nodes; tree.at. -/
namespace Go.Proofs.YtdfckkadmgmcaaaGreatDoor.Tree
open Go.RowKit
open Path (Bs bs mk bs_mk mk_bs tl_bs splitE splitL MaxC)
set_option linter.unusedSimpArgs false
set_option linter.unusedVariables false

set_option maxHeartbeats 4000000 in
theorem bin_calls (w : World) (v : Value) (l : List Nd) (key : ByteArray) (h : RdN w v l) (hs : Rises l) (hn : l.length ≤ 8796093022208) :
    Calls Tryz.prog 156 #[v, .string key, .func (.func 157) #[] #[]] w fun e w' => e = .returned (.tuple #[.int .i64 (idxN key l), .bool (hasN key l)]) ∧ Below w.heap.size w w' := by
  have hblk := fun W (hW : Below w.heap.size w W) x (hx : x ∈ l) => (h.bl x hx).below hW (Nat.le_refl _)
  obtain ⟨ao, cap, rfl, hcap, _, hcell⟩ := rd_cellsN h.rd
  have Hcell := Lib.hid hcell; have Hblk := Lib.hid hblk; clear hcell h hblk
  have Hs := Lib.hid hs; clear hs
  go_enter Tryz.func156, Tryz.ntmps156
  go_wp2_with (fail)
  go_loopw [9, 10] (fun vi vj wr => ∃ i j : Nat, vi = .int .i64 i ∧ vj = .int .i64 j ∧ i ≤ j ∧ j ≤ l.length ∧ (∀ p x, p < i → l[p]? = some x → ltB (bs x.path) (bs key) = true) ∧ (∀ p x, j ≤ p → l[p]? = some x → ltB (bs x.path) (bs key) = false) ∧ Below w.heap.size w wr) (fun vi vj _ => (intOf vj - intOf vi).toNat)
  case atStart => exact ⟨0, l.length, rfl, rfl, Nat.zero_le _, Nat.le_refl _, fun p x hp => by omega, fun p x hp hx => by have := (List.getElem?_eq_some_iff.1 hx).1; omega, Below.refl _ _⟩
  case round =>
    obtain ⟨i, j, rfl, rfl, hij, hjl, h1, h2, hb⟩ := hrel
    have H1 := Lib.hid h1; have H2 := Lib.hid h2; clear h1 h2
    have hsz := hb.size
    by_cases hlt : i < j
    · obtain ⟨x, hx⟩ : ∃ x, l[(i + j) / 2]? = some x := ⟨l[(i + j) / 2]'(by omega), by simp [show (i + j) / 2 < l.length by omega]⟩
      obtain ⟨b, off, rfl, hbb, c0, c1, c2, c3, c4⟩ := Hcell.out wr hb _ x hx
      have hby := by_calls wr x key (Hblk.out wr hb x (List.mem_of_getElem? hx))
      rw [cmp_lt] at hby
      have Hx := Lib.hid hx; have Hb := Lib.hid hb; clear hx hb
      have hm1 : (i + j) / 2 < l.length := by omega
      cases hk : ltB (bs x.path) (bs key)
      · rw [hk, if_neg (by simp)] at hby
        have hcm' : ¬ (if bs x.path = bs key then (0 : Int) else 1) < 0 := by split <;> omega
        generalize (if bs x.path = bs key then (0 : Int) else 1) = cm at *
        have Hk := Lib.hid hk; clear hk
        go_wp2_with (fail)
        refine hby.mono ?_
        rintro e w1 ⟨rfl, hb1⟩
        go_wp2_with (fail)
        go_roundw
        case rel =>
          refine ⟨i, (i + j) / 2, rfl, by rw [show ((i : Int) + (j : Int)) / 2 = (((i + j) / 2 : Nat) : Int) by omega], by omega, by omega, H1.out, fun p y hp hy => ?_, Hb.out.trans (hb1.mono hsz)⟩
          by_cases he : p = (i + j) / 2
          · subst he
            have := Hx.out.symm.trans hy
            simp only [Option.some.injEq] at this
            rw [← this]; exact Hk.out
          · have hr := rises_get Hs.out Hx.out hy (by omega)
            rw [Bool.eq_false_iff]
            intro hh
            have := lt_trans _ _ _ hr hh
            rw [Hk.out] at this; cases this
        case measure => simp [intOf]; omega
      · rw [hk, if_pos rfl] at hby
        have Hk := Lib.hid hk; clear hk
        go_wp2_with (fail)
        refine hby.mono ?_
        rintro e w1 ⟨rfl, hb1⟩
        go_wp2_with (fail)
        go_roundw
        case rel =>
          refine ⟨(i + j) / 2 + 1, j, by rw [show ((i : Int) + (j : Int)) / 2 + 1 = (((i + j) / 2 + 1 : Nat) : Int) by omega], rfl, by omega, hjl, fun p y hp hy => ?_, H2.out, Hb.out.trans (hb1.mono hsz)⟩
          by_cases he : p = (i + j) / 2
          · subst he
            have := Hx.out.symm.trans hy
            simp only [Option.some.injEq] at this
            rw [← this]; exact Hk.out
          · exact lt_trans _ _ _ (rises_get Hs.out hy Hx.out (by omega)) Hk.out
        case measure => simp [intOf]; omega
    · obtain rfl : j = i := by omega
      have Hidx : Hid (idxN key l = j) := idx_at hjl H1.out H2.out
      by_cases hjn : j < l.length
      · obtain ⟨x, hx⟩ : ∃ x, l[j]? = some x := ⟨l[j], by simp [hjn]⟩
        obtain ⟨b, off, rfl, hbb, c0, c1, c2, c3, c4⟩ := Hcell.out wr hb _ x hx
        have hby := by_calls wr x key (Hblk.out wr hb x (List.mem_of_getElem? hx))
        rw [cmp_lt] at hby
        have Hx := Lib.hid hx; have Hb := Lib.hid hb; clear hx hb
        have hge := H2.out j x (Nat.le_refl _) Hx.out
        rw [hge, if_neg (by simp)] at hby
        have Hge := Lib.hid hge; clear hge
        by_cases he : bs x.path = bs key
        · have hh : hasN key l = true := List.any_eq_true.2 ⟨x, List.mem_of_getElem? Hx.out, by simp [he]⟩
          rw [if_pos he] at hby
          have Hh := Lib.hid hh; clear hh he
          go_wp2_with (fail)
          refine hby.mono ?_
          rintro e w1 ⟨rfl, hb1⟩
          go_wp2_with (fail)
          go_ret2
          exact ⟨by rw [Hidx.out, Hh.out]; rfl, Hb.out.trans (hb1.mono hsz)⟩
        · have hh : hasN key l = false := by
            rw [hasN, List.any_eq_false]
            intro y hy
            obtain ⟨p, hp, rfl⟩ := List.mem_iff_getElem.1 hy
            have hp' : l[p]? = some l[p] := by simp [hp]
            intro hbe
            have hbe' := beq_iff_eq.1 hbe
            by_cases h1 : p < j
            · exact lt_ne (H1.out p _ h1 hp') hbe'
            · by_cases h2 : p = j
              · subst h2
                have := Hx.out.symm.trans hp'
                simp only [Option.some.injEq] at this
                rw [← this] at hbe'
                exact he hbe'
              · have hr := rises_get Hs.out Hx.out hp' (by omega)
                rw [hbe', Hge.out] at hr
                cases hr
          rw [if_neg he] at hby
          have Hh := Lib.hid hh; clear hh he
          go_wp2_with (fail)
          refine hby.mono ?_
          rintro e w1 ⟨rfl, hb1⟩
          go_wp2_with (fail)
          go_ret2
          exact ⟨by rw [Hidx.out, Hh.out]; rfl, Hb.out.trans (hb1.mono hsz)⟩
      · have Hno : Hid (hasN key l = false) := by
          show hasN key l = false
          rw [hasN, List.any_eq_false]
          intro y hy
          obtain ⟨p, hp, rfl⟩ := List.mem_iff_getElem.1 hy
          intro hbe
          exact lt_ne (H1.out p l[p] (by omega) (by simp [hp])) (beq_iff_eq.1 hbe)
        go_wp2_with (fail)
        go_ret2
        exact ⟨by rw [Hidx.out, Hno.out]; rfl, hb⟩

theorem at_calls (w : World) (v : Value) (l : List Nd) (key : ByteArray) (h : RdN w v l) (hs : Rises l) (hn : l.length ≤ 8796093022208) :
    Calls Tryz.prog 114 #[v, .string key] w fun e w' => e = .returned (.tuple #[.int .i64 (idxN key l), .bool (hasN key l)]) ∧ Below w.heap.size w w' := by
  have hb := bin_calls w v l key h hs hn
  clear h
  go_enter Tryz.func114, Tryz.ntmps114
  go_wp2_with (fail)
  refine hb.mono ?_
  rintro e w1 ⟨rfl, hb1⟩
  go_wp2_with (fail)
  go_ret2
  exact ⟨rfl, hb1⟩
end Go.Proofs.YtdfckkadmgmcaaaGreatDoor.Tree

/- Trees: tree.dir; which nodes fail a choice (slices.IndexFunc, ContainsFunc). -/
namespace Go.Proofs.YtdfckkadmgmcaaaGreatDoor.Tree
open Go.RowKit
open Path (Bs bs mk bs_mk mk_bs tl_bs splitE splitL MaxC parD parE parN)
set_option linter.unusedSimpArgs false
set_option linter.unusedVariables false

theorem has_find (key : ByteArray) (l : List Nd) : hasN key l = (l.find? (fun x => bs x.path == bs key)).isSome := by
  rw [hasN, Bool.eq_iff_iff, List.any_eq_true, List.find?_isSome]
theorem idx_has {l : List Nd} {key : ByteArray} {x : Nd} (hr : Rises l) (hx : l.find? (fun x => bs x.path == bs key) = some x) : l[idxN key l]? = some x := by
  have hc : bs x.path = bs key := by have := List.find?_some hx; simpa using this
  obtain ⟨p, hp, hpx⟩ := List.mem_iff_getElem.1 (List.mem_of_find?_eq_some hx)
  have hp' : l[p]? = some x := by simp [hp, hpx]
  rw [idx_at (i := p) (by omega) (fun q y hq hy => ?_) (fun q y hq hy => ?_)]
  · exact hp'
  · have := rises_get hr hy hp' hq; rw [hc] at this; exact this
  · by_cases e : q = p
    · subst e
      have := hp'.symm.trans hy
      simp only [Option.some.injEq] at this
      rw [← this, hc]; exact lt_irr _
    · have := rises_get hr hp' hy (by omega); rw [hc] at this; exact lt_asym this

def dirE (l : List Nd) (p : Bs) : Int := match l.find? (fun y => bs y.path == parD p) with
  | none => 5
  | some x => if x.dir = true then 0 else 7

set_option maxHeartbeats 2000000 in
theorem dir_calls (w : World) (v : Value) (l : List Nd) (p : ByteArray) (h : RdN w v l) (hs : Rises l) (hn : l.length ≤ 8796093022208) (hM : MaxC w) :
    Calls Tryz.prog 67 #[v, .string p] w fun e w' => e = .returned (.int .i64 (dirE l (bs p))) ∧ Below w.heap.size w w' := by
  have h1 := Path.parent_calls w p hM
  have hat := fun W (hW : Below w.heap.size w W) => at_calls W v l (mk (parD (bs p))) (h.below hW) hs hn
  obtain ⟨ao, cap, rfl, _, _, hcell⟩ := rd_cellsN h.rd
  have hfi := has_find (mk (parD (bs p))) l
  have hix := fun x => idx_has (key := mk (parD (bs p))) (x := x) hs
  rw [bs_mk] at hfi
  rw [bs_mk] at hix
  rw [dirE]
  generalize parD (bs p) = D at *
  generalize parE (bs p) = E at *
  generalize parN (bs p) = N at *
  cases hf : l.find? (fun y => bs y.path == D) with
  | none =>
    rw [hf] at hfi
    simp only [Option.isSome_none] at hfi
    have Hat := Lib.hid hat
    have Hfi := Lib.hid hfi
    clear hat hfi hix h hs hcell hM hf
    go_enter Tryz.func67, Tryz.ntmps67
    go_wp2_with (fail)
    refine h1.mono ?_
    rintro e w1 ⟨rfl, hb1⟩
    have ha := Hat.out w1 hb1
    rw [Hfi.out] at ha
    go_wp2_with (fail)
    refine ha.mono ?_
    rintro e w2 ⟨rfl, hb2⟩
    go_wp2_with (fail)
    go_ret
    exact ⟨rfl, hb1.trans (hb2.mono hb1.size)⟩
  | some x =>
    rw [hf] at hfi
    simp only [Option.isSome_some] at hfi
    have hx := hix x hf
    have hxl := (List.getElem?_eq_some_iff.1 hx).1
    generalize idxN (mk D) l = i at *
    have Hat := Lib.hid hat
    have Hfi := Lib.hid hfi
    have Hcell := Lib.hid hcell
    have Hx := Lib.hid hx
    clear hat hfi hix h hs hcell hM hf hx
    show Calls _ _ _ w fun e w' => e = .returned (.int .i64 (if x.dir = true then 0 else 7)) ∧ Below w.heap.size w w'
    cases hd : x.dir
    · rw [if_neg (by simp)]
      go_enter Tryz.func67, Tryz.ntmps67
      go_wp2_with (fail)
      refine h1.mono ?_
      rintro e w1 ⟨rfl, hb1⟩
      have ha := Hat.out w1 hb1
      rw [Hfi.out] at ha
      go_wp2_with (fail)
      refine ha.mono ?_
      rintro e w2 ⟨rfl, hb2⟩
      have hB := hb1.trans (hb2.mono hb1.size)
      obtain ⟨b, off, rfl, hbb, c0, c1, c2, c3, c4⟩ := Hcell.out w2 hB i x Hx.out
      rw [hd] at c1
      clear Hat Hcell Hx
      go_wp2_with (fail)
      go_ret
      exact ⟨rfl, hB⟩
    · rw [if_pos rfl]
      go_enter Tryz.func67, Tryz.ntmps67
      go_wp2_with (fail)
      refine h1.mono ?_
      rintro e w1 ⟨rfl, hb1⟩
      have ha := Hat.out w1 hb1
      rw [Hfi.out] at ha
      go_wp2_with (fail)
      refine ha.mono ?_
      rintro e w2 ⟨rfl, hb2⟩
      have hB := hb1.trans (hb2.mono hb1.size)
      obtain ⟨b, off, rfl, hbb, c0, c1, c2, c3, c4⟩ := Hcell.out w2 hB i x Hx.out
      rw [hd] at c1
      clear Hat Hcell Hx
      go_wp2_with (fail)
      go_ret
      exact ⟨rfl, hB⟩

theorem r1_calls (w : World) (bt : Nat) (v : Value) (l : List Nd) (x : Nd) (hc : w.heap[bt]? = some (.cells #[v] 24 (0, 0))) (hx : Rd w 3 encB x.bv x.blocks) (h : RdN w v l) (hs : Rises l) (hn : l.length ≤ 8796093022208) (hM : MaxC w) :
    Calls Tryz.prog 66 #[.agg #[.string x.path, .bool x.dir, .int .i64 x.quota, x.bv, .int .i64 x.writer], .pointer (some ⟨bt, 0, none⟩)] w fun e w' => e = .returned (.bool (dirE l (bs x.path) != 0)) ∧ Below w.heap.size w w' := by
  have hcc := cell_of_one hc
  have hbl := lt_of_block hc
  obtain ⟨ao, cap, hv⟩ := bv_slice hx
  have hd := fun W (hW : Below w.heap.size w W) => dir_calls W v l x.path (h.below hW) hs hn (hM.below hW)
  obtain ⟨ao', cap', hv', _⟩ := rd_cellsN h.rd
  rw [hv'] at hd hcc
  rw [hv]
  have Hd := Lib.hid hd
  clear hd hx h hs hM hv hv' hc
  go_enter Tryz.func66, Tryz.ntmps66
  go_wp2_with (fail)
  refine (Hd.out _ ((Below.refl _ _).alloc (Nat.le_refl _) _)).mono ?_
  rintro e w1 ⟨rfl, hb1⟩
  have hB := ((Below.refl w.heap.size w).alloc (Nat.le_refl _) (.cells #[.string x.path, .bool x.dir, .int .i64 x.quota, .slice ao x.blocks.length cap, .int .i64 x.writer] 35)).trans (hb1.mono (by simp))
  go_wp2_with (fail)
  go_ret
  exact ⟨rfl, hB⟩
end Go.Proofs.YtdfckkadmgmcaaaGreatDoor.Tree

/- Trees: slices.IndexFunc, ContainsFunc over nodes, whatever the choice; tree.Find. -/
namespace Go.Proofs.YtdfckkadmgmcaaaGreatDoor.Tree
open Go.RowKit
open Path (Bs bs mk bs_mk mk_bs tl_bs splitE splitL MaxC parD parE parN)
set_option linter.unusedSimpArgs false
set_option linter.unusedVariables false

def fiN (q : Nd → Bool) (l : List Nd) : Int := match l.findIdx? q with
  | none => -1
  | some i => i
theorem fi_none {q : Nd → Bool} {l : List Nd} (h : ∀ p x, p < l.length → l[p]? = some x → q x = false) : fiN q l = -1 := by
  have : l.findIdx? q = none := by
    rw [List.findIdx?_eq_none_iff]
    intro x hx
    obtain ⟨p, hp, rfl⟩ := List.mem_iff_getElem.1 hx
    exact h p _ hp (by simp [hp])
  rw [fiN, this]
theorem fi_some {q : Nd → Bool} {l : List Nd} {k : Nat} {x : Nd} (h : ∀ p x, p < k → l[p]? = some x → q x = false) (hx : l[k]? = some x) (hq : q x = true) : fiN q l = k := by
  obtain ⟨hk, rfl⟩ := List.getElem?_eq_some_iff.1 hx
  have : l.findIdx? q = some k := by
    rw [List.findIdx?_eq_some_iff_getElem]
    refine ⟨hk, hq, fun j hj => ?_⟩
    have hjl : j < l.length := by omega
    have := h j _ hj (show l[j]? = some l[j] by simp [hjl])
    rw [this]; decide
  rw [fiN, this]
theorem fi_any (q : Nd → Bool) (l : List Nd) : (l.any q = true ∧ 0 ≤ fiN q l) ∨ (l.any q = false ∧ fiN q l = -1) := by
  rw [fiN]
  cases h : l.findIdx? q with
  | none =>
    rw [List.findIdx?_eq_none_iff] at h
    exact .inr ⟨by rw [List.any_eq_false]; intro x hx; rw [h x hx]; decide, rfl⟩
  | some i =>
    rw [List.findIdx?_eq_some_iff_getElem] at h
    obtain ⟨hi, hq, _⟩ := h
    exact .inl ⟨List.any_eq_true.2 ⟨_, List.getElem_mem hi, hq⟩, Int.natCast_nonneg _⟩

/-- A call of a function with a body enters it. -/
theorem enters {P : Program} {f : FuncId} {fn : Func} {c : Code} (hf : P.funcs[f]? = some fn) (hname : (fn.name == "runtime.NumGoroutine") = false) (hb : fn.body = some c) (args : Array Value) (w : World) :
    (callFunc f args).run P w = .ok (.enter f args) w := by
  have h1 : fn.name ≠ "runtime.NumGoroutine" := by simpa using hname
  simp [callFunc, hf, h1, hb]
/-- What a choice does to each node of the row. -/
def Picks (w : World) (n : Nat) (c : Value) (q : Nd → Bool) (l : List Nd) : Prop :=
  ∀ W, Below w.heap.size w W → ∀ x ∈ l, Calls Tryz.prog n #[.agg #[.string x.path, .bool x.dir, .int .i64 x.quota, x.bv, .int .i64 x.writer], c] W fun e w' => e = .returned (.bool (q x)) ∧ Below W.heap.size W w'

set_option maxRecDepth 4000 in
set_option maxHeartbeats 4000000 in
theorem idxn_calls (w : World) (n : Nat) (c : Value) (q : Nd → Bool) (v : Value) (l : List Nd) (eg : ∀ args W, (callFunc n args).run Tryz.prog W = .ok (.enter n args) W) (hp : Picks w n c q l) (h : Rd w 5 encN v l) (hn : l.length ≤ 8796093022208) :
    Calls Tryz.prog 68 #[v, .func (.func n) #[] #[c]] w fun e w' => e = .returned (.int .i64 (fiN q l)) ∧ Below w.heap.size w w' := by
  obtain ⟨ao, cap, rfl, _, _, hcell⟩ := rd_cellsN h
  have Hcell := Lib.hid hcell; have Hp := Lib.hid hp; clear hcell h hp
  go_enter Tryz.func68, Tryz.ntmps68
  go_wp2_with (fail)
  go_loopw [8] (fun i wr => ∃ k : Nat, k ≤ l.length ∧ i = .int .i64 k ∧ Below w.heap.size w wr ∧ (∀ p x, p < k → l[p]? = some x → q x = false)) (fun i _ => l.length - (intOf i).toNat)
  case atStart => exact ⟨0, Nat.zero_le _, rfl, Below.refl _ _, fun p x hp => by omega⟩
  case round =>
    obtain ⟨k, hk, rfl, hb, hnone⟩ := hrel
    have Hnone := Lib.hid hnone; clear hnone
    by_cases hlt : k < l.length
    · obtain ⟨x, hx⟩ : ∃ x, l[k]? = some x := ⟨l[k], by simp [hlt]⟩
      obtain ⟨b, off, rfl, hlb, c0, c1, c2, c3, c4⟩ := Hcell.out wr hb k x hx
      have hpx := Hp.out wr hb x (List.mem_of_getElem? hx)
      have Hx := Lib.hid hx; clear hx
      cases hq : q x
      · rw [hq] at hpx
        have Hq := Lib.hid hq; clear hq
        go_wp2_with (fail)
        refine hpx.mono ?_
        rintro e w1 ⟨rfl, hb1⟩
        go_wp2_with (fail)
        go_roundw
        case rel =>
          refine ⟨k + 1, by omega, by go_num, hb.trans (hb1.mono hb.size), fun p y hp hy => ?_⟩
          by_cases e : p = k
          · subst e
            have := Hx.out.symm.trans hy
            simp only [Option.some.injEq] at this
            rw [← this]; exact Hq.out
          · exact Hnone.out p y (by omega) hy
        case measure => simp [intOf]; omega
      · rw [hq] at hpx
        have Hfi := Lib.hid (fi_some Hnone.out Hx.out hq); clear hq
        go_wp2_with (fail)
        refine hpx.mono ?_
        rintro e w1 ⟨rfl, hb1⟩
        go_wp2_with (fail)
        go_ret
        exact ⟨by rw [Hfi.out]; rfl, hb.trans (hb1.mono hb.size)⟩
    · obtain rfl : k = l.length := by omega
      have Hfi := Lib.hid (fi_none Hnone.out)
      go_wp2_with (fail)
      go_ret
      exact ⟨by rw [Hfi.out]; rfl, hb⟩

theorem hasn_calls (w : World) (n : Nat) (c : Value) (q : Nd → Bool) (v : Value) (l : List Nd) (eg : ∀ args W, (callFunc n args).run Tryz.prog W = .ok (.enter n args) W) (hp : Picks w n c q l) (h : Rd w 5 encN v l) (hn : l.length ≤ 8796093022208) :
    Calls Tryz.prog 65 #[v, .func (.func n) #[] #[c]] w fun e w' => e = .returned (.bool (l.any q)) ∧ Below w.heap.size w w' := by
  have hi := idxn_calls w n c q v l eg hp h hn
  obtain ⟨ao, cap, rfl, _, _, _⟩ := rd_cellsN h
  rcases fi_any q l with ⟨h1, h2⟩ | ⟨h1, h2⟩
  all_goals
    rw [h1]
    try rw [h2] at hi
    clear h1 hp h
    go_enter Tryz.func65, Tryz.ntmps65
    go_wp2_with (fail)
    refine hi.mono ?_
    rintro e w1 ⟨rfl, hb1⟩
    go_wp2_with (fail)
    go_ret
    exact ⟨rfl, hb1⟩

theorem find1_calls (w : World) (bt : Nat) (key : ByteArray) (x : Nd) (hc : w.heap[bt]? = some (.cells #[.string key] 9 (0, 0))) (hx : Rd w 3 encB x.bv x.blocks) :
    Calls Tryz.prog 69 #[.agg #[.string x.path, .bool x.dir, .int .i64 x.quota, x.bv, .int .i64 x.writer], .pointer (some ⟨bt, 0, none⟩)] w fun e w' => e = .returned (.bool (bs x.path == bs key)) ∧ Below w.heap.size w w' := by
  have hcc := cell_of_one hc
  have hbl := lt_of_block hc
  obtain ⟨ao, cap, hv⟩ := bv_slice hx
  rw [hv]
  clear hx hv hc
  go_enter Tryz.func69, Tryz.ntmps69
  go_wp2_with (fail)
  go_ret
  exact ⟨ret_bool (by rw [tl_bs, tl_bs]), (Below.refl _ _).alloc (Nat.le_refl _) _⟩

def findI (key : Bs) (l : List Nd) : Int := fiN (fun x => bs x.path == key) l
theorem find_calls (w : World) (v : Value) (l : List Nd) (key : ByteArray) (h : RdN w v l) (hn : l.length ≤ 8796093022208) :
    Calls Tryz.prog 27 #[v, .string key] w fun e w' => e = .returned (.int .i64 (findI (bs key) l)) ∧ Below w.heap.size w w' := by
  have hb : Below w.heap.size w (w.alloc (.cells #[.string key] 9 (0, 0))) := (Below.refl _ _).alloc (Nat.le_refl _) _
  have hk := heap_alloc_new w (.cells #[.string key] 9 (0, 0))
  have hp : Picks (w.alloc (.cells #[.string key] 9 (0, 0))) 69 (.pointer (some ⟨w.heap.size, 0, none⟩)) (fun x => bs x.path == bs key) l := by
    intro W hW x hx
    exact find1_calls W w.heap.size key x ((hW.block _ (by simp)).trans hk) ((h.bl x hx).below (hb.trans (hW.mono hb.size)) (Nat.le_refl _))
  have hi := idxn_calls _ 69 _ _ v l (enters Tryz.func69 (by kernel_rfl) rfl) hp (h.rd.below hb (Nat.le_refl _)) hn
  obtain ⟨ao, cap, rfl, _, _, _⟩ := rd_cellsN h.rd
  clear hp h
  go_enter Tryz.func27, Tryz.ntmps27
  go_wp2_with (fail)
  refine hi.mono ?_
  rintro e w1 ⟨rfl, hb1⟩
  go_wp2_with (fail)
  go_ret
  exact ⟨rfl, hb.trans (hb1.mono hb.size)⟩
end Go.Proofs.YtdfckkadmgmcaaaGreatDoor.Tree

/- Trees: tree.Right. -/
namespace Go.Proofs.YtdfckkadmgmcaaaGreatDoor.Tree
open Go.RowKit
open Path (Bs bs mk bs_mk mk_bs tl_bs splitE splitL MaxC parD parE parN)
set_option linter.unusedSimpArgs false
set_option linter.unusedVariables false

def headOk (l : List Nd) : Bool := match l with
  | [] => false
  | x :: _ => decide (l.length ≤ 60) && (bs x.path == [47]) && x.dir
def okA (l : List Nd) (k : Nat) : Bool := match l[k]? with
  | none => false
  | some x => fitsN x && (match k with
    | 0 => true
    | j + 1 => match l[j]? with
      | none => false
      | some y => ltB (bs y.path) (bs x.path))
def dirBad (l : List Nd) (x : Nd) : Bool := dirE l (bs x.path) != 0
def rightA (l : List Nd) : Bool := headOk l && (List.range l.length).all (okA l)
def rightT (l : List Nd) : Bool := rightA l && !((l.drop 1).any (dirBad l))

theorem rightA_at {l : List Nd} (h : ∀ j, j < l.length → okA l j = true) {k : Nat} {x : Nd} (hx : l[k]? = some x) : fitsN x = true ∧ ∀ j y, k = j + 1 → l[j]? = some y → ltB (bs y.path) (bs x.path) = true := by
  have hk := (List.getElem?_eq_some_iff.1 hx).1
  have := h k hk
  rw [okA, hx] at this
  simp only [Bool.and_eq_true] at this
  refine ⟨this.1, fun j y hj hy => ?_⟩
  subst hj
  simpa [hy] using this.2
theorem rises_of {l : List Nd} (h : ∀ j, j < l.length → okA l j = true) : Rises l := by
  refine List.pairwise_iff_getElem.2 fun i j hi hj hij => ?_
  have key : ∀ d, ∀ hj : i + 1 + d < l.length, ltB (bs l[i].path) (bs (l[i + 1 + d]'hj).path) = true := by
    intro d
    induction d with
    | zero =>
      intro hj
      exact (rightA_at h (k := i + 1) (x := l[i + 1]) (by simp [show i + 1 < l.length by omega])).2 i l[i] rfl (by simp [hi])
    | succ d ih =>
      intro hj
      have h1 := ih (by omega)
      have h2 := (rightA_at h (k := i + 1 + d + 1) (x := l[i + 1 + d + 1]) (by simp [show i + 1 + d + 1 < l.length by omega])).2 (i + 1 + d) (l[i + 1 + d]'(by omega)) rfl (by simp [show i + 1 + d < l.length by omega])
      exact lt_trans _ _ _ h1 h2
  have := key (j - (i + 1)) (by omega)
  have e : i + 1 + (j - (i + 1)) = j := by omega
  simpa only [e] using this
theorem okA_ways {l : List Nd} {k : Nat} {x : Nd} (hx : l[k]? = some x) :
    (fitsN x = false ∧ okA l k = false) ∨ (fitsN x = true ∧ k = 0 ∧ okA l k = true) ∨
    (∃ j y, k = j + 1 ∧ l[j]? = some y ∧ fitsN x = true ∧ ltB (bs y.path) (bs x.path) = true ∧ okA l k = true) ∨
    (∃ j y, k = j + 1 ∧ l[j]? = some y ∧ fitsN x = true ∧ ltB (bs y.path) (bs x.path) = false ∧ okA l k = false) := by
  rw [okA, hx]
  simp only []
  cases hf : fitsN x
  · exact .inl ⟨rfl, rfl⟩
  · cases k with
    | zero => exact .inr (.inl ⟨rfl, rfl, rfl⟩)
    | succ j =>
      have hk := (List.getElem?_eq_some_iff.1 hx).1
      have hy : l[j]? = some l[j] := by simp [show j < l.length by omega]
      simp only [hy]
      cases hl : ltB (bs l[j].path) (bs x.path)
      · exact .inr (.inr (.inr ⟨j, l[j], by trivial, by first | exact hy | trivial, by trivial, by first | exact hl | trivial, by first | rfl | trivial⟩))
      · exact .inr (.inr (.inl ⟨j, l[j], by trivial, by first | exact hy | trivial, by trivial, by first | exact hl | trivial, by first | rfl | trivial⟩))
theorem head_ways (l : List Nd) :
    (((l.length : Int) == 0) = true ∧ headOk l = false) ∨
    (((l.length : Int) == 0) = false ∧ 60 < (l.length : Int) ∧ headOk l = false) ∨
    (∃ x, ((l.length : Int) == 0) = false ∧ ¬ 60 < (l.length : Int) ∧ l[0]? = some x ∧ (x.path.toList != [47]) = true ∧ headOk l = false) ∨
    (∃ x, ((l.length : Int) == 0) = false ∧ ¬ 60 < (l.length : Int) ∧ l[0]? = some x ∧ (x.path.toList != [47]) = false ∧ x.dir = false ∧ headOk l = false) ∨
    (∃ x, ((l.length : Int) == 0) = false ∧ ¬ 60 < (l.length : Int) ∧ l[0]? = some x ∧ (x.path.toList != [47]) = false ∧ x.dir = true ∧ headOk l = true) := by
  cases l with
  | nil => exact .inl ⟨rfl, rfl⟩
  | cons x t =>
    have h0 : (((x :: t).length : Int) == 0) = false := beq_false_of_ne (by rw [List.length_cons]; omega)
    refine .inr ?_
    simp only [headOk]
    rw [show x :: t = x :: t from rfl] at *
    by_cases h60 : 60 < ((x :: t).length : Int)
    · exact .inl ⟨h0, h60, by rw [decide_eq_false (by omega)]; rfl⟩
    · refine .inr ?_
      have hd : decide ((x :: t).length ≤ 60) = true := decide_eq_true (by omega)
      rw [hd]
      cases hp : (x.path.toList != [47])
      · have hp' : (bs x.path == [47]) = true := by rw [← tl_bs]; simpa [bne] using hp
        rw [hp']
        cases hdr : x.dir
        · exact .inr (.inl ⟨x, h0, h60, by first | rfl | trivial, by first | exact hp | trivial, by first | exact hdr | trivial, by first | rfl | trivial⟩)
        · exact .inr (.inr ⟨x, h0, h60, by first | rfl | trivial, by first | exact hp | trivial, by first | exact hdr | trivial, by first | rfl | trivial⟩)
      · have hp' : (bs x.path == [47]) = false := by rw [← tl_bs]; simpa [bne] using hp
        rw [hp']
        exact .inl ⟨x, h0, h60, rfl, hp, rfl⟩

theorem any_dir {w : World} {bt : Nat} {v : Value} {l : List Nd} (hc : w.heap[bt]? = some (.cells #[v] 24 (0, 0))) (h : RdN w v l) (hs : Rises l) (hn : l.length ≤ 8796093022208) (hM : MaxC w) : Picks w 66 (.pointer (some ⟨bt, 0, none⟩)) (dirBad l) (l.drop 1) := by
  intro W hW x hx
  exact r1_calls W bt v l x ((hW.block bt (lt_of_block hc)).trans hc) ((h.bl x (List.mem_of_mem_drop hx)).below hW (Nat.le_refl _)) (h.below hW) hs hn (hM.below hW)
theorem rd_dropN {w : World} {b off n cap : Nat} {l : List Nd} (h : Rd w 5 encN (.slice (some ⟨b, off, none⟩) n cap) l) (hk : 1 ≤ n) : Rd w 5 encN (.slice (some ⟨b, off + 5, none⟩) (n - 1) (cap - 1)) (l.drop 1) := by
  obtain ⟨ao, cap', hv, hc, hcm, hcell⟩ := h
  injection hv with e1 e2 e3
  subst e1; subst e3; subst e2
  refine ⟨_, _, by rw [List.length_drop], by rw [List.length_drop]; omega, by omega, fun k x hx => ?_⟩
  rw [List.getElem?_drop] at hx
  obtain ⟨b', off', hb, hlt, hcl⟩ := hcell _ x hx
  injection hb with hb
  injection hb with e1 e2
  subst e1; subst e2
  refine ⟨b, off + 5, rfl, hlt, fun j u hu => ?_⟩
  have := hcl j u hu
  rw [show off + (1 + k) * 5 + j = off + 5 + k * 5 + j by omega] at this
  exact this
end Go.Proofs.YtdfckkadmgmcaaaGreatDoor.Tree

/- Trees: tree.Right, walked. -/
namespace Go.Proofs.YtdfckkadmgmcaaaGreatDoor.Tree
open Go.RowKit
open Path (Bs bs mk bs_mk mk_bs tl_bs splitE splitL MaxC parD parE parN)
set_option linter.unusedSimpArgs false
set_option linter.unusedVariables false

set_option maxHeartbeats 4000000 in
theorem right_no (w : World) (v : Value) (l : List Nd) (h : Rd w 5 encN v l) (hn : l.length ≤ 8796093022208) (hh : headOk l = false) :
    Calls Tryz.prog 26 #[v] w fun e w' => e = .returned (.bool false) ∧ Below w.heap.size w w' := by
  obtain ⟨ao, cap, rfl, _, _, hcell⟩ := rd_cellsN h
  have Hcell := Lib.hid hcell
  have hb0 : ∀ o, Below w.heap.size w (w.alloc o) := fun o => (Below.refl _ _).alloc (Nat.le_refl _) _
  have Hb0 := Lib.hid hb0
  have hw := head_ways l
  clear hcell h hb0
  rcases hw with ⟨c1, _⟩ | ⟨c1, c2, _⟩ | ⟨x, c1, c2, hx, c3, _⟩ | ⟨x, c1, c2, hx, c3, c4, _⟩ | ⟨x, c1, c2, hx, c3, c4, h5⟩
  rotate_right
  · rw [hh] at h5; cases h5
  all_goals
    clear hh
    try
      obtain ⟨b, off, rfl, hlb, k0, k1, k2, k3, k4⟩ := Hcell.out _ (Hb0.out (.cells #[.slice ao l.length cap] 24 (0, 0))) 0 x hx
      simp only [Nat.zero_mul, Nat.add_zero] at k0 k1 k2 k3 k4
      have hpos := (List.getElem?_eq_some_iff.1 hx).1
      clear hx
    try rw [c4] at k1
    try have c3' : (x.path.toList == [47]) = false := by simpa [bne] using c3
    try have c3' : (x.path.toList == [47]) = true := by simpa [bne] using c3
    go_enter Tryz.func26, Tryz.ntmps26
    go_wp2_with (fail)
    go_ret
    exact ⟨rfl, Hb0.out _⟩

set_option maxHeartbeats 8000000 in
theorem right_calls (w : World) (v : Value) (l : List Nd) (h : RdN w v l) (hn : l.length ≤ 8796093022208) (hM : MaxC w) :
    Calls Tryz.prog 26 #[v] w fun e w' => e = .returned (.bool (rightT l)) ∧ Below w.heap.size w w' := by
  by_cases hh0 : headOk l = false
  · rw [rightT, rightA, hh0]
    exact right_no w v l h.rd hn hh0
  have hh : headOk l = true := by simpa using hh0
  clear hh0
  obtain ⟨x0, c1, c2, hx0, c3, c4⟩ : ∃ x, ((l.length : Int) == 0) = false ∧ ¬ 60 < (l.length : Int) ∧ l[0]? = some x ∧ (x.path.toList == [47]) = true ∧ x.dir = true := by
    rcases head_ways l with ⟨_, h5⟩ | ⟨_, _, h5⟩ | ⟨x, _, _, _, _, h5⟩ | ⟨x, _, _, _, _, _, h5⟩ | ⟨x, c1, c2, hx, c3, c4, h5⟩
    all_goals try (rw [hh] at h5; cases h5)
    exact ⟨x, c1, c2, hx, by simpa [bne] using c3, c4⟩
  have hfit := fun W (hW : Below w.heap.size w W) x (hx : x ∈ l) => fits_calls W x ((h.bl x hx).below hW (Nat.le_refl _)) (hM.below hW)
  have hany := fun bt W (hW : Below w.heap.size w W) (hc : W.heap[bt]? = some (.cells #[v] 24 (0, 0))) (hs : Rises l) => hasn_calls W 66 (.pointer (some ⟨bt, 0, none⟩)) (dirBad l)
  have hR : ∀ W, Below w.heap.size w W → RdN W v l := fun W hW => h.below hW
  have hMM : ∀ W, Below w.heap.size w W → MaxC W := fun W hW => hM.below hW
  have hbvs : ∀ x ∈ l, ∃ ao cap, x.bv = .slice ao x.blocks.length cap := fun x hx => bv_slice (h.bl x hx)
  obtain ⟨ao, cap, rfl, hcap, _, hcell⟩ := rd_cellsN h.rd
  have Hcell := Lib.hid hcell; have Hfit := Lib.hid hfit; have HR := Lib.hid hR; have HM := Lib.hid hMM; have Hbvs := Lib.hid hbvs
  have Hh := Lib.hid hh
  clear hcell h hfit hany hR hMM hM hbvs hh
  have hb0 : Below w.heap.size w (w.alloc (.cells #[.slice ao l.length cap] 24 (0, 0))) := (Below.refl _ _).alloc (Nat.le_refl _) _
  have hk0 := heap_alloc_new w (.cells #[.slice ao l.length cap] 24 (0, 0))
  obtain ⟨b, off, rfl, hlb, k0, k1, k2, k3, k4⟩ := Hcell.out _ hb0 0 x0 hx0
  simp only [Nat.zero_mul, Nat.add_zero] at k0 k1 k2 k3 k4
  rw [c4] at k1
  have hpos := (List.getElem?_eq_some_iff.1 hx0).1
  clear hx0 k2 k3 k4 c4
  go_enter Tryz.func26, Tryz.ntmps26
  go_wp2_with (fail)
  generalize hw0 : w.alloc (.cells #[.slice (some ⟨b, off, none⟩) l.length cap] 24) = w0 at *
  have hbt : w.heap.size < w0.heap.size := lt_of_block hk0
  have hsz0 := hb0.size
  generalize hgt : w.heap.size = bt at *
  clear k0 k1 hw0 c1 c3
  have Hb0 := Lib.hid hb0; have Hk0 := Lib.hid hk0; clear hb0 hk0
  go_loopw [29] (fun vk wr => ∃ k : Nat, vk = .int .i64 k ∧ k ≤ l.length ∧ (∀ j, j < k → okA l j = true) ∧ Below w0.heap.size w0 wr) (fun vk _ => l.length - (intOf vk).toNat)
  case atStart => exact ⟨0, rfl, Nat.zero_le _, fun j hj => by omega, Below.refl _ _⟩
  case round =>
    obtain ⟨k, rfl, hk, hall, hb⟩ := hrel
    have Hall := Lib.hid hall; clear hall
    have hsz := hb.size
    have hbw : Below bt w wr := Hb0.out.trans (hb.mono hsz0)
    have hkr : wr.heap[bt]? = _ := (hb.block bt hbt).trans Hk0.out
    have Hkr := Lib.hid hkr
    have kr := cell_of_one hkr
    have hbtr : bt < wr.heap.size := by omega
    clear hkr
    by_cases hlt : k < l.length
    · obtain ⟨x, hx⟩ : ∃ x, l[k]? = some x := ⟨l[k], by simp [hlt]⟩
      obtain ⟨b', off', he, _, d0, d1, d2, d3, d4⟩ := Hcell.out wr hbw k x hx
      simp only [Option.some.injEq, Addr.mk.injEq, and_true] at he
      obtain ⟨rfl, rfl⟩ := he
      have hbr : b < wr.heap.size := by omega
      have hxm := List.mem_of_getElem? hx
      obtain ⟨ax, cx, hbvx⟩ := Hbvs.out x hxm
      have hfx := fun W hW => Hfit.out W hW x hxm
      rw [hbvx] at hfx d3
      have ways := okA_ways hx
      have Hx := Lib.hid hx; have Hxm := Lib.hid hxm
      clear hx hxm hbvx
      have hA := hb.alloc hsz (.cells #[.string x.path, .bool x.dir, .int .i64 x.quota, .slice ax x.blocks.length cx, .int .i64 x.writer] 35 (0, 0))
      have hAk := heap_alloc_new wr (.cells #[.string x.path, .bool x.dir, .int .i64 x.quota, .slice ax x.blocks.length cx, .int .i64 x.writer] 35 (0, 0))
      have hA0 : (wr.alloc (.cells #[.string x.path, .bool x.dir, .int .i64 x.quota, .slice ax x.blocks.length cx, .int .i64 x.writer] 35 (0, 0))).heap[bt]? = _ := (hA.block bt hbt).trans Hk0.out
      have HA := Lib.hid hA; have HAk := Lib.hid hAk; have HA0 := Lib.hid hA0
      have Hb := Lib.hid hb
      clear hA hAk hA0 hb
      have Hways := Lib.hid ways
      clear ways
      go_wp2_with (fail)
      generalize wr.alloc (.cells #[.string x.path, .bool x.dir, .int .i64 x.quota, .slice ax x.blocks.length cx, .int .i64 x.writer] 35) = wA at *
      generalize hnt : wr.heap.size = nt at *
      have a0 := cell_of_blk (j := 0) HAk.out
      have a1 := cell_of_blk (j := 1) HAk.out
      have a2 := cell_of_blk (j := 2) HAk.out
      have a3 := cell_of_blk (j := 3) HAk.out
      have a4 := cell_of_blk (j := 4) HAk.out
      have ab := cell_of_one HA0.out
      have hntA := lt_of_block HAk.out
      have hbtA := lt_of_block HA0.out
      simp only [List.getElem?_toArray, List.getElem?_cons_zero, List.getElem?_cons_succ] at a0 a1 a2 a3 a4
      clear kr d0 d1 d2 d3 d4
      have hszA := HA.out.size
      have Hfx := Lib.hid hfx; clear hfx
      have hbwA : Below bt w wA := Hb0.out.trans (HA.out.mono hsz0)
      have e0 := cell_regrown a0
      have e1 := cell_regrown a1
      have e2 := cell_regrown a2
      have e3 := cell_regrown a3
      have e4 := cell_regrown a4
      have eb := cell_regrown ab
      rcases Hways.out with ⟨c1, c2⟩ | ⟨c1, rfl, c2⟩ | ⟨j, y, rfl, hy, c1, c3, c2⟩ | ⟨j, y, rfl, hy, c1, c3, c2⟩
      · have hfin : rightT l = false := by
          rw [rightT, rightA, show (List.range l.length).all (okA l) = false from List.all_eq_false.2 ⟨k, List.mem_range.2 hlt, by rw [c2]; decide⟩, Bool.and_false]; rfl
        have Hfin := Lib.hid hfin
        have hfx := Hfx.out; rw [c1] at hfx
        have cF := fun d os => Calls.regrown_of (hfx _ (hbwA.trans ((below_regrown wA d os).mono (Nat.le_of_lt hbtA))))
        clear hfin c2 hfx Hfx c1
        refine wp_region_quiet_below (by kernel_rfl) (by kernel_rfl) ?_; (repeat (go_big_quiet_step ((exact cF _ _)))); refine wpQuiet_nil ?_; intro _ hw'; obtain ⟨⟨dq, osq⟩, hw''⟩ := hw'; subst hw''
        go_wp2_with (fail)
        go_ret
        exact ⟨ret_bool Hfin.out.symm, hgt ▸ hbwA.trans ((below_regrown wA dq osq).mono (Nat.le_of_lt hbtA))⟩
      · have hokn : ∀ i, i < 1 → okA l i = true := fun i hi => by obtain rfl : i = 0 := by omega
                                                                  exact c2
        have Hokn := Lib.hid hokn
        have hfx := Hfx.out; rw [c1] at hfx
        have cF := fun d os => Calls.regrown_of (hfx _ (hbwA.trans ((below_regrown wA d os).mono (Nat.le_of_lt hbtA))))
        clear hokn c2 hfx Hfx c1
        refine wp_region_quiet_below (by kernel_rfl) (by kernel_rfl) ?_; (repeat (go_big_quiet_step ((exact cF _ _)))); refine wpQuiet_nil ?_; intro _ hw'; obtain ⟨⟨dq, osq⟩, hw''⟩ := hw'; subst hw''
        go_wp2_with (fail)
        go_roundw
        case rel => exact ⟨1, by go_num, by omega, Hokn.out, HA.out.trans ((below_regrown wA dq osq).mono hszA)⟩
        case measure => simp [intOf]; omega
      · have hokn : ∀ i, i < j + 1 + 1 → okA l i = true := fun i hi => by
          by_cases e : i < j + 1
          · exact Hall.out i e
          · obtain rfl : i = j + 1 := by omega
            exact c2
        have Hokn := Lib.hid hokn
        have hfx := Hfx.out; rw [c1] at hfx
        have cF := fun d os => Calls.regrown_of (hfx _ (hbwA.trans ((below_regrown wA d os).mono (Nat.le_of_lt hbtA))))
        obtain ⟨b'', off'', he, _, d0, d1, d2, d3, d4⟩ := Hcell.out wA hbwA j y hy
        simp only [Option.some.injEq, Addr.mk.injEq, and_true] at he
        obtain ⟨rfl, rfl⟩ := he
        have ed := cell_regrown d0
        have hle1 : Op.bytesLess x.path.toList y.path.toList = false := by
          rw [tl_bs, tl_bs]; exact lt_asym c3
        have hle2 : (x.path.toList == y.path.toList) = false := by
          rw [tl_bs, tl_bs]; exact beq_false_of_ne (fun e => lt_ne c3 e.symm)
        clear hokn c2 hfx Hfx c1 d1 d2 d3 d4 hy
        refine wp_region_quiet_below (by kernel_rfl) (by kernel_rfl) ?_; (repeat (go_big_quiet_step ((exact cF _ _)))); refine wpQuiet_nil ?_; intro _ hw'; obtain ⟨⟨dq, osq⟩, hw''⟩ := hw'; subst hw''
        go_wp2_with (fail)
        go_roundw
        case rel => exact ⟨j + 1 + 1, by go_num, by omega, Hokn.out, HA.out.trans ((below_regrown wA dq osq).mono hszA)⟩
        case measure => simp [intOf]; omega
      · have hfin : rightT l = false := by
          rw [rightT, rightA, show (List.range l.length).all (okA l) = false from List.all_eq_false.2 ⟨j + 1, List.mem_range.2 hlt, by rw [c2]; decide⟩, Bool.and_false]; rfl
        have Hfin := Lib.hid hfin
        have hfx := Hfx.out; rw [c1] at hfx
        have cF := fun d os => Calls.regrown_of (hfx _ (hbwA.trans ((below_regrown wA d os).mono (Nat.le_of_lt hbtA))))
        obtain ⟨b'', off'', he, _, d0, d1, d2, d3, d4⟩ := Hcell.out wA hbwA j y hy
        simp only [Option.some.injEq, Addr.mk.injEq, and_true] at he
        obtain ⟨rfl, rfl⟩ := he
        have ed := cell_regrown d0
        have hle : (Op.bytesLess x.path.toList y.path.toList || x.path.toList == y.path.toList) = true := by
          rw [tl_bs, tl_bs]
          rcases lt_tri (bs x.path) (bs y.path) with h | h | h
          · rw [ltB] at h; rw [h, Bool.true_or]
          · rw [beq_iff_eq.2 h, Bool.or_true]
          · rw [c3] at h; cases h
        rw [Bool.or_eq_true] at hle
        clear hfin c2 hfx Hfx c1 d1 d2 d3 d4 hy
        rcases hle with h1 | h1
        all_goals
          refine wp_region_quiet_below (by kernel_rfl) (by kernel_rfl) ?_; (repeat (go_big_quiet_step ((exact cF _ _)))); refine wpQuiet_nil ?_; intro _ hw'; obtain ⟨⟨dq, osq⟩, hw''⟩ := hw'; subst hw''
          go_wp2_with (fail)
          go_ret
          exact ⟨ret_bool Hfin.out.symm, hgt ▸ hbwA.trans ((below_regrown wA dq osq).mono (Nat.le_of_lt hbtA))⟩
    · obtain rfl : k = l.length := by omega
      have hR := HR.out wr hbw
      have hs := rises_of Hall.out
      have hp := any_dir Hkr.out hR hs hn (HM.out wr hbw)
      have hRA : rightT l = !((l.drop 1).any (dirBad l)) := by
        rw [rightT, rightA, Hh.out, show (List.range l.length).all (okA l) = true from List.all_eq_true.2 fun i hi => Hall.out i (List.mem_range.1 hi)]; rfl
      have HRA := Lib.hid hRA
      have eg := enters Tryz.func66 (P := Tryz.prog) (by kernel_rfl) rfl
      have hln : (l.drop 1).length ≤ 8796093022208 := by rw [List.length_drop]; omega
      by_cases hc1 : cap = 1
      · have hd0 : l.drop 1 = [] := List.drop_eq_nil_of_le (by omega)
        have hl1 : l.length = 1 := by omega
        have hr1 : Rd wr 5 encN (.slice (some ⟨b, off, none⟩) 0 0) (l.drop 1) := by
          rw [hd0]
          exact ⟨_, _, rfl, Nat.le_refl _, Nat.zero_le _, fun i x hx => by cases hx⟩
        have hh := hasn_calls wr 66 (.pointer (some ⟨bt, 0, none⟩)) (dirBad l) _ _ eg hp hr1 hln
        have Hhh := Lib.hid hh
        have hlc : l.length ≤ cap := hcap
        clear hh hr1 hp hs hR hRA hd0 hl1 eg
        subst hc1
        go_wp2_with (fail)
        refine Hhh.out.mono ?_
        rintro e w2 ⟨rfl, hb2⟩
        go_wp2_with (fail)
        go_ret
        exact ⟨ret_bool (by rw [HRA.out, List.drop_one]), hgt ▸ hbw.trans (hb2.mono (by omega))⟩
      · have hh := hasn_calls wr 66 (.pointer (some ⟨bt, 0, none⟩)) (dirBad l) _ _ eg hp (rd_dropN hR.rd hpos) hln
        have Hhh := Lib.hid hh
        have hlc : 1 < cap := by omega
        clear hh hp hs hR hRA hc1 eg
        go_wp2_with (fail)
        refine Hhh.out.mono ?_
        rintro e w2 ⟨rfl, hb2⟩
        go_wp2_with (fail)
        go_ret
        exact ⟨ret_bool (by rw [HRA.out, List.drop_one]), hgt ▸ hbw.trans (hb2.mono (by omega))⟩
end Go.Proofs.YtdfckkadmgmcaaaGreatDoor.Tree

/- Trees: the document's Find, Right. -/
namespace Go.Proofs.YtdfckkadmgmcaaaGreatDoor.Tree
open Go.RowKit
open Path (Bs bs mk bs_mk mk_bs tl_bs splitE splitL MaxC parD parE parN below_drewN)
set_option linter.unusedSimpArgs false
set_option linter.unusedVariables false

set_option maxHeartbeats 4000000 in
theorem rfind_calls (w : World) (v : Value) (l : List Nd) (key : ByteArray) (h : Rd w 5 encN v l) (hn : l.length ≤ 8796093022208) :
    Calls Tryz.prog 54 #[v, .string key] w fun e w' => e = .returned (.int .i64 (findI (bs key) l)) ∧ Below w.heap.size w w' := by
  obtain ⟨ao, cap, rfl, _, _, hcell⟩ := rd_cellsN h
  have Hcell := Lib.hid hcell; clear hcell h
  go_enter Tryz.func54, Tryz.ntmps54
  go_wp2_with (fail)
  go_loopw [5] (fun i wr => ∃ k : Nat, i = .int .i64 k ∧ k ≤ l.length ∧ Below w.heap.size w wr ∧ (∀ p x, p < k → l[p]? = some x → (fun x => bs x.path == bs key) x = false)) (fun i _ => l.length - (intOf i).toNat)
  case atStart => exact ⟨0, rfl, Nat.zero_le _, Below.refl _ _, fun p x hp => by omega⟩
  case round =>
    obtain ⟨k, rfl, hk, hb, hnone⟩ := hrel
    have Hnone := Lib.hid hnone; clear hnone
    by_cases hlt : k < l.length
    · obtain ⟨x, hx⟩ : ∃ x, l[k]? = some x := ⟨l[k], by simp [hlt]⟩
      obtain ⟨b, off, rfl, hlb, c0, c1, c2, c3, c4⟩ := Hcell.out wr hb k x hx
      have Hx := Lib.hid hx; clear hx
      cases hq : (bs x.path == bs key)
      · have hq' : (x.path.toList == key.toList) = false := by rw [tl_bs, tl_bs]; exact hq
        have Hq := Lib.hid hq; clear hq
        go_wp2_with (fail)
        go_roundw
        case rel =>
          refine ⟨k + 1, by go_num, by omega, hb, fun p y hp hy => ?_⟩
          by_cases e : p = k
          · subst e
            have := Hx.out.symm.trans hy
            simp only [Option.some.injEq] at this
            rw [← this]; exact Hq.out
          · exact Hnone.out p y (by omega) hy
        case measure => simp [intOf]; omega
      · have hq' : (x.path.toList == key.toList) = true := by rw [tl_bs, tl_bs]; exact hq
        have Hfi := Lib.hid (fi_some Hnone.out Hx.out hq); clear hq
        go_wp2_with (fail)
        go_ret
        exact ⟨by rw [findI, Hfi.out]; rfl, hb⟩
    · obtain rfl : k = l.length := by omega
      have Hfi := Lib.hid (fi_none Hnone.out)
      go_wp2_with (fail)
      go_ret
      exact ⟨by rw [findI, Hfi.out]; rfl, hb⟩

theorem find_facts (p : Bs) (l : List Nd) : (findI p l = -1 ∧ l.find? (fun x => bs x.path == p) = none) ∨ ∃ (i : Nat) (x : Nd), findI p l = i ∧ l[i]? = some x ∧ l.find? (fun x => bs x.path == p) = some x := by
  rw [findI, fiN]
  cases h : l.findIdx? (fun x => bs x.path == p) with
  | none =>
    left
    refine ⟨rfl, ?_⟩
    rw [List.findIdx?_eq_none_iff] at h
    rw [List.find?_eq_none]
    intro x hx
    rw [h x hx]; decide
  | some i =>
    right
    rw [List.findIdx?_eq_some_iff_getElem] at h
    obtain ⟨hi, h1, h2⟩ := h
    refine ⟨i, l[i], rfl, by simp [hi], ?_⟩
    rw [List.find?_eq_some_iff_getElem]
    refine ⟨h1, i, hi, rfl, fun j hj => ?_⟩
    have := h2 j hj
    simpa using this
theorem bad_ways (l : List Nd) (x : Nd) : (dirBad l x = true ∧ findI (parD (bs x.path)) l = -1) ∨ (∃ (i : Nat) (y : Nd), findI (parD (bs x.path)) l = i ∧ l[i]? = some y ∧ y.dir = false ∧ dirBad l x = true) ∨ (∃ (i : Nat) (y : Nd), findI (parD (bs x.path)) l = i ∧ l[i]? = some y ∧ y.dir = true ∧ dirBad l x = false) := by
  rw [dirBad, dirE]
  rcases find_facts (parD (bs x.path)) l with ⟨h1, h2⟩ | ⟨i, y, h1, h2, h3⟩
  · exact .inl ⟨by rw [h2]; rfl, h1⟩
  · right
    rw [h3]
    cases hd : y.dir
    · exact .inl ⟨i, y, h1, h2, hd, by simp [hd]⟩
    · exact .inr ⟨i, y, h1, h2, hd, by simp [hd]⟩
/-- What holds of the first k nodes. -/
def upto (l : List Nd) (k : Nat) : Prop := ∀ j, j < k → okA l j = true ∧ ∀ x, l[j]? = some x → 1 ≤ j → dirBad l x = false
theorem upto_end {l : List Nd} (hh : headOk l = true) (h : upto l l.length) : rightT l = true := by
  rw [rightT, rightA, hh, show (List.range l.length).all (okA l) = true from List.all_eq_true.2 fun i hi => (h i (List.mem_range.1 hi)).1, Bool.true_and, Bool.true_and, Bool.not_eq_true']
  rw [List.any_eq_false]
  intro x hx
  obtain ⟨j, hj, rfl⟩ := List.mem_iff_getElem.1 hx
  rw [List.getElem_drop]
  rw [List.length_drop] at hj
  rw [(h (1 + j) (by omega)).2 _ (by simp [show 1 + j < l.length by omega]) (by omega)]
  decide
theorem bad_end {l : List Nd} {k : Nat} {x : Nd} (hx : l[k]? = some x) (hk : 1 ≤ k) (h : dirBad l x = true) : rightT l = false := by
  have hkl := (List.getElem?_eq_some_iff.1 hx).1
  rw [rightT, show (l.drop 1).any (dirBad l) = true from List.any_eq_true.2 ⟨x, List.mem_of_getElem? (i := k - 1) (by rw [List.getElem?_drop, show 1 + (k - 1) = k by omega]; exact hx), h⟩, Bool.not_true, Bool.and_false]
theorem ok_end {l : List Nd} {k : Nat} (hk : k < l.length) (h : okA l k = false) : rightT l = false := by
  rw [rightT, rightA, show (List.range l.length).all (okA l) = false from List.all_eq_false.2 ⟨k, List.mem_range.2 hk, by rw [h]; decide⟩, Bool.and_false]; rfl

set_option maxHeartbeats 4000000 in
theorem rright_no (w : World) (v : Value) (l : List Nd) (h : Rd w 5 encN v l) (hn : l.length ≤ 8796093022208) (hh : headOk l = false) :
    Calls Tryz.prog 59 #[v] w fun e w' => e = .returned (.bool false) ∧ Below w.heap.size w w' := by
  obtain ⟨ao, cap, rfl, _, _, hcell⟩ := rd_cellsN h
  have Hcell := Lib.hid hcell
  have hw := head_ways l
  clear hcell h
  rcases hw with ⟨c1, _⟩ | ⟨c1, c2, _⟩ | ⟨x, c1, c2, hx, c3, _⟩ | ⟨x, c1, c2, hx, c3, c4, _⟩ | ⟨x, c1, c2, hx, c3, c4, h5⟩
  rotate_right
  · rw [hh] at h5; cases h5
  all_goals
    clear hh
    try
      obtain ⟨b, off, rfl, hlb, k0, k1, k2, k3, k4⟩ := Hcell.out _ (Below.refl _ _) 0 x hx
      simp only [Nat.zero_mul, Nat.add_zero] at k0 k1 k2 k3 k4
      have hpos := (List.getElem?_eq_some_iff.1 hx).1
      clear hx
    try rw [c4] at k1
    try have c3' : (x.path.toList == [47]) = false := by simpa [bne] using c3
    try have c3' : (x.path.toList == [47]) = true := by simpa [bne] using c3
    go_enter Tryz.func59, Tryz.ntmps59
    go_wp2_with (fail)
    go_ret
    exact ⟨rfl, Below.refl _ _⟩

set_option maxRecDepth 4000 in
set_option maxHeartbeats 8000000 in
theorem rright_calls (w : World) (v : Value) (l : List Nd) (h : RdN w v l) (hn : l.length ≤ 8796093022208) :
    Calls Tryz.prog 59 #[v] w fun e w' => e = .returned (.bool (rightT l)) ∧ Below w.heap.size w w' := by
  by_cases hh0 : headOk l = false
  · rw [rightT, rightA, hh0]
    exact rright_no w v l h.rd hn hh0
  have hh : headOk l = true := by simpa using hh0
  clear hh0
  obtain ⟨x0, c1, c2, hx0, c3, c4⟩ : ∃ x, ((l.length : Int) == 0) = false ∧ ¬ 60 < (l.length : Int) ∧ l[0]? = some x ∧ (x.path.toList == [47]) = true ∧ x.dir = true := by
    rcases head_ways l with ⟨_, h5⟩ | ⟨_, _, h5⟩ | ⟨x, _, _, _, _, h5⟩ | ⟨x, _, _, _, _, _, h5⟩ | ⟨x, c1, c2, hx, c3, c4, h5⟩
    all_goals try (rw [hh] at h5; cases h5)
    exact ⟨x, c1, c2, hx, by simpa [bne] using c3, c4⟩
  have hfit := fun W (hW : Below w.heap.size w W) x (hx : x ∈ l) => rfits_calls W x ((h.bl x hx).below hW (Nat.le_refl _))
  have hfind := fun W (hW : Below w.heap.size w W) key => rfind_calls W v l key (h.below hW).rd hn
  have hbvs : ∀ x ∈ l, ∃ ao cap, x.bv = .slice ao x.blocks.length cap := fun x hx => bv_slice (h.bl x hx)
  obtain ⟨ao, cap, rfl, hcap, _, hcell⟩ := rd_cellsN h.rd
  have Hcell := Lib.hid hcell; have Hfit := Lib.hid hfit; have Hbvs := Lib.hid hbvs; have Hfind := Lib.hid hfind
  have Hh := Lib.hid hh
  clear hcell h hfit hfind hbvs hh
  obtain ⟨b, off, rfl, hlb, k0, k1, k2, k3, k4⟩ := Hcell.out _ (Below.refl _ _) 0 x0 hx0
  simp only [Nat.zero_mul, Nat.add_zero] at k0 k1 k2 k3 k4
  rw [c4] at k1
  have hpos := (List.getElem?_eq_some_iff.1 hx0).1
  clear hx0 k2 k3 k4 c4
  go_enter Tryz.func59, Tryz.ntmps59
  go_wp2_with (fail)
  clear k0 k1 c1 c3
  go_loopw [3] (fun vk wr => ∃ k : Nat, vk = .int .i64 k ∧ k ≤ l.length ∧ upto l k ∧ Below w.heap.size w wr) (fun vk _ => l.length - (intOf vk).toNat)
  case atStart => exact ⟨0, rfl, Nat.zero_le _, fun j hj => by omega, Below.refl _ _⟩
  case round =>
    obtain ⟨k, rfl, hk, hall, hb⟩ := hrel
    have Hall := Lib.hid hall; clear hall
    have hsz := hb.size
    by_cases hlt : k < l.length
    · obtain ⟨x, hx⟩ : ∃ x, l[k]? = some x := ⟨l[k], by simp [hlt]⟩
      obtain ⟨b', off', he, _, d0, d1, d2, d3, d4⟩ := Hcell.out wr hb k x hx
      simp only [Option.some.injEq, Addr.mk.injEq, and_true] at he
      obtain ⟨rfl, rfl⟩ := he
      have hxm := List.mem_of_getElem? hx
      obtain ⟨ax, cx, hbvx⟩ := Hbvs.out x hxm
      have hfx := Hfit.out wr hb x hxm
      rw [hbvx] at hfx d3
      have ways := okA_ways hx
      have bad := bad_ways l x
      have Hx := Lib.hid hx
      have Hb := Lib.hid hb; have Hbad := Lib.hid bad
      clear hxm hbvx hb hx bad
      rcases ways with ⟨e1, e2⟩ | ⟨e1, rfl, e2⟩ | ⟨j, y, rfl, hy, e1, e3, e2⟩ | ⟨j, y, rfl, hy, e1, e3, e2⟩
      all_goals
        rw [e1] at hfx
        have He2 := Lib.hid e2
        clear e1 e2
      · go_wp2_with (fail)
        refine hfx.mono ?_
        rintro e w2 ⟨rfl, hb2⟩
        go_wp2_with (fail)
        go_quiet (fail)
        go_wp2_with (fail)
        go_ret
        exact ⟨ret_bool (ok_end hlt He2.out).symm, Hb.out.trans ((hb2.mono hsz).trans (below_drewN w2 _ |>.mono (by have := hb2.size; omega)))⟩
      · simp only [Nat.zero_mul, Nat.add_zero] at d0 d1 d2 d3 d4
        go_wp2_with (fail)
        refine hfx.mono ?_
        rintro e w2 ⟨rfl, hb2⟩
        go_wp2_with (fail)
        go_quiet (fail)
        go_wp2_with (fail)
        go_roundw
        case rel => exact ⟨1, by go_num, by omega, fun i hi => by obtain rfl : i = 0 := by omega
                                                                  exact ⟨He2.out, fun x hx h1 => by omega⟩, Hb.out.trans ((hb2.mono hsz).trans (below_drewN w2 _ |>.mono (by have := hb2.size; omega)))⟩
        case measure => simp [intOf]; omega
      · have hle1 : Op.bytesLess x.path.toList y.path.toList = false := by
          rw [tl_bs, tl_bs]; exact lt_asym e3
        have hle2 : (x.path.toList == y.path.toList) = false := by
          rw [tl_bs, tl_bs]; exact beq_false_of_ne (fun e => lt_ne e3 e.symm)
        have hk0 : (((j + 1 : Nat) : Int) == 0) = false := beq_false_of_ne (by omega)
        have Hy := Lib.hid hy
        clear hy
        go_wp2_with (fail)
        refine hfx.mono ?_
        rintro e w2 ⟨rfl, hb2⟩
        have hbw2 := Hb.out.trans (hb2.mono hsz)
        obtain ⟨b', off', he, _, g0, g1, g2, g3, g4⟩ := Hcell.out w2 hbw2 j y Hy.out
        simp only [Option.some.injEq, Addr.mk.injEq, and_true] at he
        obtain ⟨rfl, rfl⟩ := he
        obtain ⟨b', off', he, _, d0, d1, d2, d3, d4⟩ := Hcell.out w2 hbw2 (j + 1) x Hx.out
        simp only [Option.some.injEq, Addr.mk.injEq, and_true] at he
        obtain ⟨rfl, rfl⟩ := he
        clear d1 d2 d3 d4 g1 g2 g3 g4 hb2
        go_wp2_with (fail)
        go_quiet (fail)
        have hbw3 : Below w.heap.size w (w2.drewN nq) := hbw2.trans (below_drewN w2 _ |>.mono hbw2.size)
        have d0' : (w2.drewN nq).cell? ⟨b, off + (j + 1) * 5, none⟩ = some (.string x.path) := d0
        generalize w2.drewN nq = w3 at *
        have hp := Path.rparent_calls w3 x.path
        have HP := Lib.hid hp
        clear d0 g0 hp
        go_wp2_with (fail)
        refine HP.out.mono ?_
        rintro e w4 ⟨rfl, hb4⟩
        have hbw4 := hbw3.trans (hb4.mono hbw3.size)
        have hf := Hfind.out w4 hbw4 (mk (parD (bs x.path)))
        rw [bs_mk] at hf
        go_wp2_with (fail)
        rcases Hbad.out with ⟨q1, q2⟩ | ⟨i, z, q1, q2, q3, q4⟩ | ⟨i, z, q1, q2, q3, q4⟩
        · rw [q2] at hf
          have Hq1 := Lib.hid q1
          clear q1 q2
          refine hf.mono ?_
          rintro e w5 ⟨rfl, hb5⟩
          go_wp2_with (fail)
          go_ret
          exact ⟨ret_bool (bad_end Hx.out (by omega) Hq1.out).symm, hbw4.trans (hb5.mono hbw4.size)⟩
        all_goals
          rw [q1] at hf
          have Hq4 := Lib.hid q4
          have hil := (List.getElem?_eq_some_iff.1 q2).1
          have Hq2 := Lib.hid q2
          have hi0 : ¬ (i : Int) < 0 := by omega
          clear q1 q2 q4
          refine hf.mono ?_
          rintro e w5 ⟨rfl, hb5⟩
          have hbw5 := hbw4.trans (hb5.mono hbw4.size)
          obtain ⟨b', off', he, _, g0, g1, g2, g3, g4⟩ := Hcell.out w5 hbw5 i z Hq2.out
          simp only [Option.some.injEq, Addr.mk.injEq, and_true] at he
          obtain ⟨rfl, rfl⟩ := he
          rw [q3] at g1
          clear q3
          go_wp2_with (fail)
        · go_ret
          exact ⟨ret_bool (bad_end Hx.out (by omega) Hq4.out).symm, hbw5⟩
        · go_roundw
          case rel =>
            refine ⟨j + 1 + 1, by go_num, by omega, fun i hi => ?_, hbw5⟩
            by_cases e : i < j + 1
            · exact Hall.out i e
            · obtain rfl : i = j + 1 := by omega
              refine ⟨He2.out, fun x' hx' _ => ?_⟩
              have := Hx.out.symm.trans hx'
              simp only [Option.some.injEq] at this
              rw [← this]; exact Hq4.out
          case measure => simp [intOf]; omega
      · have hle : (Op.bytesLess x.path.toList y.path.toList || x.path.toList == y.path.toList) = true := by
          rw [tl_bs, tl_bs]
          rcases lt_tri (bs x.path) (bs y.path) with h | h | h
          · rw [ltB] at h; rw [h, Bool.true_or]
          · rw [beq_iff_eq.2 h, Bool.or_true]
          · rw [e3] at h; cases h
        rw [Bool.or_eq_true] at hle
        have Hy := Lib.hid hy
        clear hy
        go_wp2_with (fail)
        refine hfx.mono ?_
        rintro e w2 ⟨rfl, hb2⟩
        have hbw2 := Hb.out.trans (hb2.mono hsz)
        obtain ⟨b', off', he, _, g0, g1, g2, g3, g4⟩ := Hcell.out w2 hbw2 j y Hy.out
        simp only [Option.some.injEq, Addr.mk.injEq, and_true] at he
        obtain ⟨rfl, rfl⟩ := he
        obtain ⟨b', off', he, _, d0, d1, d2, d3, d4⟩ := Hcell.out w2 hbw2 (j + 1) x Hx.out
        simp only [Option.some.injEq, Addr.mk.injEq, and_true] at he
        obtain ⟨rfl, rfl⟩ := he
        clear d1 d2 d3 d4 g1 g2 g3 g4 hb2
        go_wp2_with (fail)
        rcases hle with h1 | h1
        all_goals
          go_quiet (fail)
          go_wp2_with (fail)
          go_ret
          exact ⟨ret_bool (ok_end hlt He2.out).symm, hbw2.trans (below_drewN w2 _ |>.mono hbw2.size)⟩
    · obtain rfl : k = l.length := by omega
      go_wp2_with (fail)
      go_ret
      exact ⟨ret_bool (upto_end Hh.out Hall.out).symm, hb⟩
end Go.Proofs.YtdfckkadmgmcaaaGreatDoor.Tree

/- Trees: how nodes among a statement's arguments are opened. -/
namespace Go.Proofs.YtdfckkadmgmcaaaGreatDoor.Tree
open Go.RowKit Go.ChangeShapes Go.WideShapes Go.ChangeAt
open Path (Bs bs mk bs_mk mk_bs tl_bs splitE splitL MaxC parD parE parN)
set_option linter.unusedSimpArgs false
set_option linter.unusedVariables false

theorem trod_struct5 {H : Type} {enc : TypeId × Value → H} {P : Program} {w : World} {base : Nat} {spare : Nat → Bool} {held : Bool} {t : TypeId} {f0 f1 f2 f3 f4 : Field} {fuel : Nat} {cs : List Value} {x : DataW H × List MemPlace} (ht : P.underlying t = some (.struct #[f0, f1, f2, f3, f4])) (h : DataW.trod enc P w base spare held fuel t cs = some x) :
    ∃ y0 y1 y2 y3 y4 n, x.1 = .agg [y0.1, y1.1, y2.1, y3.1, y4.1] ∧ DataW.trod enc P w base spare held n f0.type ((cs.drop f0.offset).take (P.cellsOf f0.type)) = some y0 ∧ DataW.trod enc P w base spare held n f1.type ((cs.drop f1.offset).take (P.cellsOf f1.type)) = some y1 ∧
      DataW.trod enc P w base spare held n f2.type ((cs.drop f2.offset).take (P.cellsOf f2.type)) = some y2 ∧ DataW.trod enc P w base spare held n f3.type ((cs.drop f3.offset).take (P.cellsOf f3.type)) = some y3 ∧ DataW.trod enc P w base spare held n f4.type ((cs.drop f4.offset).take (P.cellsOf f4.type)) = some y4 := by
  obtain ⟨xs, n, _, rfl, hl, hlen, hf⟩ := DataW.trod_struct ht h
  match xs, hlen with
  | [y0, y1, y2, y3, y4], _ => exact ⟨y0, y1, y2, y3, y4, n, by simp, by simpa using hf 0 f0 rfl, by simpa using hf 1 f1 rfl, by simpa using hf 2 f2 rfl, by simpa using hf 3 f3 rfl, by simpa using hf 4 f4 rfl⟩
structure OkB (b : Bl) : Prop where
  id : inI b.id
  gen : inI b.gen
  len : inI b.len
structure OkN (W : World) (x : Nd) : Prop where
  path : x.path.size ≤ maxLen
  quota : inI x.quota
  writer : inI x.writer
  bl : Rd W 3 encB x.bv x.blocks
  ok : ∀ b ∈ x.blocks, OkB b
theorem any_bound {H : Type} (d : DataW H) (k : Nat) : ∃ N, ∀ el sp, d = .slice el sp → (el.length + sp.length) * k ≤ N := by
  cases d with
  | slice el sp => exact ⟨(el.length + sp.length) * k, fun el' sp' e => by injection e with e1 e2; subst e1; subst e2; exact Nat.le_refl _⟩
  | _ => exact ⟨0, fun el sp e => by cases e⟩
set_option maxRecDepth 100000 in
theorem open_block {H : Type} {enc : TypeId × Value → H} {W : World} {n : Nat} {cs : List Value} {x : DataW H × List MemPlace} (hl : cs.length = 3) (hx : DataW.trod enc Tryz.prog W 0 (fun _ => true) true n 31 cs = some x) : ∃ b, cs = encB b ∧ OkB b := by
  obtain ⟨y0, y1, y2, n1, _, _, h0, h1, h2⟩ := Deep.trod_struct3 Tryz.underlying31 hx
  obtain ⟨z0, e0, _, hz0⟩ := DataW.trod_int Tryz.underlying3 h0
  obtain ⟨z1, e1, _, hz1⟩ := DataW.trod_int Tryz.underlying3 h1
  obtain ⟨z2, e2, _, hz2⟩ := DataW.trod_int Tryz.underlying3 h2
  refine ⟨⟨z0, z1, z2⟩, ?_, inI_of hz0, inI_of hz1, inI_of hz2⟩
  have hC : Tryz.prog.cellsOf 3 = 1 := by kernel_rfl
  match cs, hl with
  | [c0, c1, c2], _ =>
    simp [hC] at e0 e1 e2
    subst e0 e1 e2
    rfl
set_option maxRecDepth 100000 in
theorem open_blocks {H : Type} {enc : TypeId × Value → H} {W : World} {n : Nat} {c : Value} {x : DataW H × List MemPlace} (hx : DataW.trod enc Tryz.prog W 0 (fun _ => true) true n 33 [c] = some x) : ∃ l, Rd W 3 encB c l ∧ ∀ b ∈ l, OkB b := by
  have hv : ∃ a l c', c = .slice a l c' := by
    rcases Deep.open_slice Tryz.underlying33 hx with ⟨hcs, _⟩ | ⟨a, len, cap, _, _, _, _, hcs, _⟩
    · simp at hcs; exact ⟨_, _, _, hcs⟩
    · simp at hcs; exact ⟨_, _, _, hcs⟩
  obtain ⟨N, hN⟩ := any_bound x.1 (Tryz.prog.bytesOf 31)
  obtain ⟨l, h1, h2, _⟩ := open_rowsN 3 24 encB OkB Tryz.underlying33 (by kernel_rfl) (by decide) (by kernel_rfl) (fun n cs x hl hx => open_block hl hx) hv (d := x.1) (p := x.2) ⟨n, by obtain ⟨a, l, c', rfl⟩ := hv; exact hx⟩ N hN
  exact ⟨l, h1, h2⟩
set_option maxRecDepth 100000 in
theorem open_node {H : Type} {enc : TypeId × Value → H} {W : World} {n : Nat} {cs : List Value} {x : DataW H × List MemPlace} (hl : cs.length = 5) (hx : DataW.trod enc Tryz.prog W 0 (fun _ => true) true n 35 cs = some x) : ∃ a, cs = encN a ∧ OkN W a := by
  obtain ⟨y0, y1, y2, y3, y4, n1, _, h0, h1, h2, h3, h4⟩ := trod_struct5 Tryz.underlying35 hx
  obtain ⟨z0, e0, _, hz0⟩ := DataW.trod_string Tryz.underlying9 h0
  obtain ⟨z1, e1, _⟩ := DataW.trod_bool Tryz.underlying4 h1
  obtain ⟨z2, e2, _, hz2⟩ := DataW.trod_int Tryz.underlying3 h2
  obtain ⟨z4, e4, _, hz4⟩ := DataW.trod_int Tryz.underlying3 h4
  have hC : Tryz.prog.cellsOf 3 = 1 := by kernel_rfl
  have hS : Tryz.prog.cellsOf 9 = 1 := by kernel_rfl
  have hB : Tryz.prog.cellsOf 4 = 1 := by kernel_rfl
  have hBs : Tryz.prog.cellsOf 33 = 1 := by kernel_rfl
  match cs, hl with
  | [c0, c1, c2, c3, c4], _ =>
    simp [hC, hS, hB] at e0 e1 e2 e4
    simp only [hBs] at h3
    obtain ⟨l, g1, g2⟩ := open_blocks (c := c3) (by simpa using h3)
    subst e0 e1 e2 e4
    exact ⟨⟨z0, z1, z2, l, c3, z4⟩, rfl, hz0, inI_of hz2, inI_of hz4, g1, g2⟩
set_option maxRecDepth 100000 in
theorem open_nodes {H : Type} {enc : TypeId × Value → H} {W : World} {base : Nat} {v : Value} {d : DataW H} {p : List MemPlace} (hv : Value.okWide Tryz.prog W .any base 24 v) (h : DataW.Trod enc Tryz.prog W 0 (fun _ => true) true 24 v d p)
    (hs : ∀ e, Tryz.prog.underlying 24 = some (.slice e) → ∀ el sp, d = .slice el sp → (el.length + sp.length) * Tryz.prog.bytesOf e ≤ reachBytes) :
    ∃ l : List Nd, RdN W v l ∧ (∀ x ∈ l, OkN W x) ∧ l.length ≤ 8796093022208 := by
  obtain ⟨l, h1, h2, h3⟩ := open_rows 5 64 encN (OkN W) Tryz.underlying24 (by kernel_rfl) (by decide) (by kernel_rfl) (fun n cs x hl hx => open_node hl hx) (okWide_slice Tryz.underlying24 hv) h (hs _ Tryz.underlying24)
  exact ⟨l, ⟨h1, fun x hx => (h2 x hx).bl⟩, h2, by omega⟩
end Go.Proofs.YtdfckkadmgmcaaaGreatDoor.Tree

/- Trees: rows of nodes of the call's own; where a node stands. -/
namespace Go.Proofs.YtdfckkadmgmcaaaGreatDoor.Tree
open Go.RowKit
open Path (Bs bs mk bs_mk mk_bs tl_bs splitE splitL MaxC parD parE parN)
set_option linter.unusedSimpArgs false
set_option linter.unusedVariables false

theorem infoN : (Tryz.prog.info? 35).map (fun i => (i.zero, i.size, i.bytes)) = some (some (.agg #[.string ⟨#[]⟩, .bool false, .int .i64 0, .slice none 0 0, .int .i64 0]), 5, 64) := by kernel_rfl
theorem etN : ET Tryz.prog 24 35 5 64 := ET.of Tryz.underlying24 infoN rfl (by decide) (by simp [Value.cells, Value.oneCell'])
def flatN (l : List Nd) : List Value := l.flatMap encN
theorem flatN_len (l : List Nd) : (flatN l).length = l.length * 5 := flat_length encN 5 encN_len l
theorem flatN_snoc (l : List Nd) (x : Nd) : flatN (l ++ [x]) = flatN l ++ encN x := by simp [flatN]
/-- A slice of nodes of the call's own. -/
structure OwnN (w w' : World) (v : Value) (q : List Nd) : Prop where
  own : w'.ownsRow 0 35 5 v q.length (flatN q)
  new : ∀ g, v.ownBlock = some g → w.heap.size ≤ g
  bl : ∀ x ∈ q, Rd w' 3 encB x.bv x.blocks
theorem OwnN.rd {w w' : World} {v : Value} {q : List Nd} (h : OwnN w w' v q) : RdN w' v q := ⟨Rd.of_own encN_len h.own, h.bl⟩
theorem OwnN.nil (w w' : World) : OwnN w w' (.slice none 0 0) [] := ⟨World.ownsRow_nil _ _ _ _, fun g h => by simp [Value.ownBlock] at h, fun x hx => by cases hx⟩
theorem own_ltN {w : World} {base e size n : Nat} {v : Value} {xs : List Value} (h : w.ownsRow base e size v n xs) (g : Nat) (hg : v.ownBlock = some g) : g < w.heap.size := by
  rcases h.2 with ⟨rfl, _⟩ | ⟨g', cap, cur, rfl, _, hgg, _⟩
  · simp [Value.ownBlock] at hg
  · have : g' = g := by simpa [Value.ownBlock] using hg
    subst this
    exact lt_of_block hgg
theorem OwnN.below {w w' w'' : World} {v : Value} {q : List Nd} (h : OwnN w w' v q) (hb : Below w'.heap.size w' w'') : OwnN w w'' v q :=
  ⟨below_ownsRow hb h.own (fun g hg => own_ltN h.own g hg), h.new, fun x hx => (h.bl x hx).below hb (Nat.le_refl _)⟩
theorem OwnN.up {w w1 w' : World} {v : Value} {q : List Nd} (h : OwnN w1 w' v q) (hw : w.heap.size ≤ w1.heap.size) : OwnN w w' v q := ⟨h.own, fun g hg => Nat.le_trans hw (h.new g hg), h.bl⟩
/-- Rows of blocks that lie in what was there ahead of the call stay, whatever the call does with its own. -/
theorem RdN.mem {w : World} {v : Value} {l : List Nd} (h : RdN w v l) {w' : World} (hb : Below w.heap.size w w') {x : Nd} (hx : x ∈ l) : Rd w' 3 encB x.bv x.blocks := (h.bl x hx).below hb (Nat.le_refl _)

theorem right_rises {l : List Nd} (h : rightT l = true) : Rises l := by
  simp only [rightT, rightA, Bool.and_eq_true] at h
  exact rises_of fun j hj => List.all_eq_true.1 h.1.2 j (List.mem_range.2 hj)
theorem rises_inj {l : List Nd} (h : Rises l) {i j : Nat} {x y : Nd} (hx : l[i]? = some x) (hy : l[j]? = some y) (e : bs x.path = bs y.path) : i = j := by
  rcases Nat.lt_trichotomy i j with hlt | heq | hgt
  · have := rises_get h hx hy hlt
    rw [e, lt_irr] at this; cases this
  · exact heq
  · have := rises_get h hy hx hgt
    rw [e, lt_irr] at this; cases this
theorem find_at {l : List Nd} (h : Rises l) {i : Nat} {x : Nd} (hx : l[i]? = some x) : l.find? (fun y => bs y.path == bs x.path) = some x := by
  cases hf : l.find? (fun y => bs y.path == bs x.path) with
  | none =>
    rw [List.find?_eq_none] at hf
    have := hf x (List.mem_of_getElem? hx)
    simp at this
  | some y =>
    obtain ⟨j, hj, hjy⟩ := List.mem_iff_getElem.1 (List.mem_of_find?_eq_some hf)
    have hy : l[j]? = some y := by simp [hj, hjy]
    have hp := List.find?_some hf
    have := rises_inj h hy hx (by simpa using hp)
    subst this
    exact hy.symm.trans hx
end Go.Proofs.YtdfckkadmgmcaaaGreatDoor.Tree

/- Trees: what hangs on paths and kinds alone; a quota that is set in a row of one's own. -/
namespace Go.Proofs.YtdfckkadmgmcaaaGreatDoor.Tree
open Go.RowKit
open Path (Bs bs mk bs_mk mk_bs tl_bs splitE splitL MaxC parD parE parN)
set_option linter.unusedSimpArgs false
set_option linter.unusedVariables false

def keys (l : List Nd) : List (Bs × Bool) := l.map fun x => (bs x.path, x.dir)
theorem keys_get (l : List Nd) (k : Nat) : (keys l)[k]? = (l[k]?).map fun x => (bs x.path, x.dir) := by rw [keys, List.getElem?_map]
theorem keys_len {l m : List Nd} (h : keys l = keys m) : l.length = m.length := by
  have := congrArg List.length h
  simpa [keys] using this
theorem keys_at {l m : List Nd} (h : keys l = keys m) {k : Nat} {x : Nd} (hx : l[k]? = some x) : ∃ y, m[k]? = some y ∧ bs y.path = bs x.path ∧ y.dir = x.dir := by
  have h1 := keys_get l k
  rw [h, keys_get, hx] at h1
  obtain ⟨y, hy, e⟩ := Option.map_eq_some_iff.1 h1
  simp only [Prod.mk.injEq] at e
  exact ⟨y, hy, e.1, e.2⟩
theorem dirE_keys (l : List Nd) (p : Bs) : dirE l p = match (keys l).find? (fun y => y.1 == parD p) with
    | none => 5
    | some y => if y.2 = true then 0 else 7 := by
  rw [dirE, keys, List.find?_map]
  have e : ((fun y : Bs × Bool => y.1 == parD p) ∘ fun x : Nd => (bs x.path, x.dir)) = fun y => bs y.path == parD p := rfl
  rw [e]
  cases l.find? (fun y => bs y.path == parD p) <;> rfl
theorem right_keys {l m : List Nd} (h : keys m = keys l) (hf : ∀ x ∈ m, fitsN x = true) (hr : rightT l = true) : rightT m = true := by
  simp only [rightT, rightA, Bool.and_eq_true] at hr ⊢
  obtain ⟨⟨h1, h2⟩, h3⟩ := hr
  have hlen := keys_len h
  refine ⟨⟨?_, ?_⟩, ?_⟩
  · cases l with
    | nil => cases h1
    | cons x l =>
      cases m with
      | nil => simp at hlen
      | cons y m =>
        simp only [keys, List.map_cons, List.cons.injEq, Prod.mk.injEq] at h
        simp only [headOk, Bool.and_eq_true, decide_eq_true_eq] at h1 ⊢
        rw [h.1.1, h.1.2]
        exact ⟨⟨by omega, h1.1.2⟩, h1.2⟩
  · refine List.all_eq_true.2 fun k hk => ?_
    have hkm : k < m.length := List.mem_range.1 hk
    have hx : m[k]? = some m[k] := by simp [hkm]
    obtain ⟨x', hx', ep, ed⟩ := keys_at h hx
    have ho := (rightA_at (l := l) (fun j hj => List.all_eq_true.1 h2 j (List.mem_range.2 hj)) hx').2
    rw [okA, hx]
    simp only [Bool.and_eq_true]
    refine ⟨hf _ (List.getElem_mem hkm), ?_⟩
    cases k with
    | zero => rfl
    | succ j =>
      have hy : m[j]? = some m[j] := by simp [show j < m.length by omega]
      obtain ⟨y', hy', ep', _⟩ := keys_at h hy
      simp only [hy]
      rw [← ep', ← ep]
      exact ho j y' rfl hy'
  · rw [Bool.not_eq_true', List.any_eq_false] at h3 ⊢
    intro x hx
    obtain ⟨k, hk, rfl⟩ := List.mem_iff_getElem.1 hx
    rw [List.length_drop] at hk
    have hx1 : m[1 + k]? = some m[1 + k] := by simp [show 1 + k < m.length by omega]
    obtain ⟨x', hx', ep, _⟩ := keys_at h hx1
    have hm : x' ∈ l.drop 1 := List.mem_of_getElem? (i := k) (by rw [List.getElem?_drop]; exact hx')
    have := h3 x' hm
    rw [List.getElem_drop, dirBad, dirE_keys, h, ← dirE_keys, ← ep]
    exact this

theorem own_poke {w : World} {e size g n cap : Nat} {xs : List Value} (h : w.ownsRow 0 e size (.slice (some ⟨g, 0, none⟩) n cap) n xs) {j : Nat} (hj : j < n * size) (u : Value) :
    (w.setCell ⟨g, j, none⟩ u).ownsRow 0 e size (.slice (some ⟨g, 0, none⟩) n cap) n (xs.set j u) := by
  refine ⟨by rw [List.length_set]; exact h.1, ?_⟩
  rcases h.2 with ⟨h', _⟩ | ⟨g', cap', cur, h', hb, hg, hnc, hcm, hcs, htake⟩
  · simp at h'
  · simp only [Value.slice.injEq, Option.some.injEq, Addr.mk.injEq, and_true, true_and] at h'
    obtain ⟨rfl, rfl⟩ := h'
    refine .inr ⟨g, cap, cur.setIfInBounds j u, rfl, hb, heap_setCell_same w g j cur e u hg, hnc, hcm, by rw [Array.size_setIfInBounds]; exact hcs, ?_⟩
    rw [Array.toList_setIfInBounds, List.take_set, htake]
theorem flatN_set {l : List Nd} {k : Nat} {x : Nd} (hx : l[k]? = some x) (q : Int) : (flatN l).set (k * 5 + 2) (.int .i64 q) = flatN (l.set k { x with quota := q }) := by
  refine flat_ext encN 5 encN_len (by decide) _ _ (by rw [List.length_set, List.length_set, flatN_len]) fun i j y hy hj => ?_
  have hkl := (List.getElem?_eq_some_iff.1 hx).1
  have hfl := flatN_len l
  by_cases e : i = k
  · subst e
    rw [List.getElem?_set_self hkl] at hy
    simp only [Option.some.injEq] at hy
    subst hy
    by_cases e2 : j = 2
    · subst e2
      rw [List.getElem?_set_self (by omega)]
      rfl
    · rw [List.getElem?_set_ne (by omega), flatN, flat_get encN 5 encN_len l i j x hx hj]
      rcases j with _ | _ | _ | _ | _ | j
      all_goals first | rfl | omega
  · rw [List.getElem?_set_ne (fun h => e h.symm)] at hy
    rw [List.getElem?_set_ne (by omega), flatN, flat_get encN 5 encN_len l i j y hy hj]
theorem OwnN.setQ {w w' : World} {g cap : Nat} {q : List Nd} (h : OwnN w w' (.slice (some ⟨g, 0, none⟩) q.length cap) q) {k : Nat} {x : Nd} (hx : q[k]? = some x) (n : Int) (hbl : ∀ y ∈ q, Rd (w'.setCell ⟨g, k * 5 + 2, none⟩ (.int .i64 n)) 3 encB y.bv y.blocks) :
    OwnN w (w'.setCell ⟨g, k * 5 + 2, none⟩ (.int .i64 n)) (.slice (some ⟨g, 0, none⟩) q.length cap) (q.set k { x with quota := n }) := by
  have hkl := (List.getElem?_eq_some_iff.1 hx).1
  refine ⟨?_, h.new, fun y hy => ?_⟩
  · rw [List.length_set, ← flatN_set hx]
    exact own_poke h.own (by omega) _
  · rcases List.mem_or_eq_of_mem_set hy with hy | rfl
    · exact hbl y hy
    · exact hbl x (List.mem_of_getElem? hx)
theorem encN_one {w : World} {x : Nd} (h : Rd w 3 encB x.bv x.blocks) : ∀ u ∈ encN x, u.oneCell' = true := by
  obtain ⟨ao, cap, hv⟩ := bv_slice h
  intro u hu
  rw [encN, hv] at hu
  simp only [List.mem_cons, List.not_mem_nil, or_false] at hu
  rcases hu with rfl | rfl | rfl | rfl | rfl <;> rfl
theorem flatN_one {w : World} {l : List Nd} (h : ∀ x ∈ l, Rd w 3 encB x.bv x.blocks) : ∀ u ∈ flatN l, u.oneCell' = true := by
  intro u hu
  obtain ⟨x, hx, hu⟩ := List.mem_flatMap.1 hu
  exact encN_one (h x hx) u hu
theorem rdN_flat {w : World} {v : Value} {l : List Nd} (h : Rd w 5 encN v l) : ∃ ao cap, v = .slice ao l.length cap ∧ ∀ W, Below w.heap.size w W → ∀ ad, ao = some ad → ∀ j u, (flatN l)[j]? = some u → W.cell? (ad.add j) = some u := by
  obtain ⟨ao, cap, hv, _, _, hcell⟩ := h
  refine ⟨ao, cap, hv, fun W hW ad had j u hu => ?_⟩
  have hj : j < l.length * 5 := by rw [← flatN_len]; exact (List.getElem?_eq_some_iff.1 hu).1
  have hi : j / 5 < l.length := by omega
  have hx : l[j / 5]? = some l[j / 5] := by simp [hi]
  obtain ⟨b, off, e, hlt, hc⟩ := hcell _ _ hx
  have hg := flat_get encN 5 encN_len l (j / 5) (j % 5) _ hx (by omega)
  rw [show j / 5 * 5 + j % 5 = j by omega] at hg
  have := hc (j % 5) u (by rw [← hg]; exact hu)
  rw [show off + j / 5 * 5 + j % 5 = off + j by omega] at this
  rw [had] at e
  injection e with e
  subst e
  rw [Addr.add_lit, hW.cell (p := ⟨b, off + j, none⟩) hlt]
  exact this
/-- What an owned row that is not empty looks like. -/
theorem own_form {w : World} {e size n : Nat} {v : Value} {xs : List Value} (h : w.ownsRow 0 e size v n xs) (hn : 0 < n * size) : ∃ g cap cur, v = .slice (some ⟨g, 0, none⟩) n cap ∧ w.heap[g]? = some (.cells cur e (0, 0)) ∧ n ≤ cap ∧ cur.size = cap * size := by
  rcases h.2 with ⟨rfl, h0⟩ | ⟨g, cap, cur, rfl, _, hg, hnc, _, hcs, _⟩
  · subst h0; simp at hn
  · exact ⟨g, cap, cur, rfl, hg, hnc, hcs⟩
theorem two_pokes {w w3 : World} {g1 g2 c1 c2 : Nat} {l : List Nd} (h1 : OwnN w w3 (.slice (some ⟨g1, 0, none⟩) l.length c1) l) (h2 : OwnN w w3 (.slice (some ⟨g2, 0, none⟩) l.length c2) l) (hne : g1 ≠ g2) (hb : Below w.heap.size w w3) (hl : ∀ x ∈ l, Rd w 3 encB x.bv x.blocks)
    {k : Nat} {x : Nd} (hx : l[k]? = some x) (n m : Int) :
    RdN ((w3.setCell ⟨g1, k * 5 + 2, none⟩ (.int .i64 n)).setCell ⟨g2, k * 5 + 2, none⟩ (.int .i64 m)) (.slice (some ⟨g1, 0, none⟩) l.length c1) (l.set k { x with quota := n }) ∧
    RdN ((w3.setCell ⟨g1, k * 5 + 2, none⟩ (.int .i64 n)).setCell ⟨g2, k * 5 + 2, none⟩ (.int .i64 m)) (.slice (some ⟨g2, 0, none⟩) l.length c2) (l.set k { x with quota := m }) ∧
    Below w.heap.size w ((w3.setCell ⟨g1, k * 5 + 2, none⟩ (.int .i64 n)).setCell ⟨g2, k * 5 + 2, none⟩ (.int .i64 m)) := by
  have hg1 := h1.new g1 rfl
  have hg2 := h2.new g2 rfl
  have hb1 : Below w.heap.size w (w3.setCell ⟨g1, k * 5 + 2, none⟩ (.int .i64 n)) := hb.setCell hg1 _
  have hb2 : Below w.heap.size w ((w3.setCell ⟨g1, k * 5 + 2, none⟩ (.int .i64 n)).setCell ⟨g2, k * 5 + 2, none⟩ (.int .i64 m)) := hb1.setCell hg2 _
  have hl1 := fun y hy => (hl y hy).below hb1 (Nat.le_refl _)
  have hl2 := fun y hy => (hl y hy).below hb2 (Nat.le_refl _)
  have k1 := h1.setQ hx n hl1
  have h2' : OwnN w (w3.setCell ⟨g1, k * 5 + 2, none⟩ (.int .i64 n)) (.slice (some ⟨g2, 0, none⟩) l.length c2) l := ⟨ownsRow_setCell_other h2.own (by simp [Value.ownBlock]; omega) _, h2.new, hl1⟩
  have k2 := h2'.setQ hx m hl2
  have hmem : ∀ y ∈ l.set k { x with quota := n }, Rd ((w3.setCell ⟨g1, k * 5 + 2, none⟩ (.int .i64 n)).setCell ⟨g2, k * 5 + 2, none⟩ (.int .i64 m)) 3 encB y.bv y.blocks := fun y hy => by
    rcases List.mem_or_eq_of_mem_set hy with hy | rfl
    · exact hl2 y hy
    · exact hl2 x (List.mem_of_getElem? hx)
  have k1' : OwnN w ((w3.setCell ⟨g1, k * 5 + 2, none⟩ (.int .i64 n)).setCell ⟨g2, k * 5 + 2, none⟩ (.int .i64 m)) (.slice (some ⟨g1, 0, none⟩) l.length c1) (l.set k { x with quota := n }) := ⟨ownsRow_setCell_other k1.own (by simp [Value.ownBlock]; omega) _, k1.new, hmem⟩
  exact ⟨k1'.rd, k2.rd, hb2⟩
end Go.Proofs.YtdfckkadmgmcaaaGreatDoor.Tree

/- Trees, in plain words: what stands in a directory, and how many nodes stand under it. -/
namespace Go.Proofs.YtdfckkadmgmcaaaGreatDoor.Tree
open Go.RowKit
open Path (Bs bs mk bs_mk mk_bs tl_bs splitE splitL MaxC parD parE parN underL under_iff under_anti under_trans joinP)
set_option linter.unusedSimpArgs false
set_option linter.unusedVariables false

/-- The beginning of what stands in p. -/
def inD (p : Bs) : Bs := if p = [47] then [47] else p ++ [47]
theorem joinP_root {ns : List Bs} (h : ∀ n ∈ ns, Path.nameL n = true) (e : joinP ns = [47]) : ns = [] := by
  cases ns with
  | nil => rfl
  | cons x r =>
    exfalso
    have hx := Path.name_ne (h x (by simp))
    cases r with
    | nil => rw [joinP, Path.inter_one] at e; simp at e; exact hx e
    | cons y r => rw [joinP, Path.inter_cons] at e; simp at e
theorem path_form {p : Bs} (hE : splitE p = 0) (hp : p ≠ [47]) : p = inD (parD p) ++ parN p ∧ Path.nameL (parN p) = true ∧ splitE (parD p) = 0 ∧ underL (parD p) p = true ∧ (splitL (parD p)).length + 1 = (splitL p).length := by
  have hL : splitL p ≠ [] := fun e => hp (Path.split_inj hE (by decide) (by rw [e]; decide))
  obtain ⟨init, n, pre, h⟩ := Path.par_yes hE hL
  have hm := Path.par_more hE h
  have hlen : (splitL (parD p)).length + 1 = (splitL p).length := by rw [h.D, hm.dL, h.L]; simp
  refine ⟨?_, by rw [h.N]; exact hm.name, by rw [h.D]; exact hm.dE, by rw [h.D]; exact hm.up, hlen⟩
  have hj := (Path.split_ok hE).2
  rw [h.L] at hj
  rw [h.N, h.D, inD]
  by_cases h0 : init = []
  · subst h0
    rw [if_pos Path.join_nil, ← hj, List.nil_append, joinP, Path.inter_one]; rfl
  · have hne : joinP init ≠ [47] := fun e => h0 (joinP_root (Path.joinE_ok.1 hm.E).1 e)
    rw [if_neg hne, ← hj, Path.join_snoc init n h0]; simp
theorem inD_inj {p n m : Bs} (h : inD p ++ n = inD p ++ m) : n = m := List.append_cancel_left h
theorem lt_pre : ∀ (a u v : Bs), ltB (a ++ u) (a ++ v) = ltB u v
  | [], _, _ => rfl
  | x :: a, u, v => by
    have := lt_pre a u v
    simp only [ltB] at this ⊢
    rw [List.cons_append, List.cons_append, Op.bytesLess, this]
    simp
def childL (l : List Nd) (p : Bs) : List Nd := (l.drop 1).filter fun x => parD (bs x.path) == p
theorem right_head {l : List Nd} (h : rightT l = true) : ∃ x t, l = x :: t ∧ bs x.path = [47] ∧ x.dir = true := by
  simp only [rightT, rightA, Bool.and_eq_true] at h
  obtain ⟨⟨h1, _⟩, _⟩ := h
  cases l with
  | nil => cases h1
  | cons x t =>
    simp only [headOk, Bool.and_eq_true] at h1
    exact ⟨x, t, rfl, by simpa using h1.1.2, h1.2⟩
theorem right_splits {l : List Nd} (h : rightT l = true) {x : Nd} (hx : x ∈ l) : splitE (bs x.path) = 0 := by
  simp only [rightT, rightA, Bool.and_eq_true] at h
  obtain ⟨k, hk, rfl⟩ := List.mem_iff_getElem.1 hx
  have := (rightA_at (l := l) (fun j hj => List.all_eq_true.1 h.1.2 j (List.mem_range.2 hj)) (k := k) (x := l[k]) (by simp [hk])).1
  simp only [fitsN, Bool.and_eq_true, decide_eq_true_eq] at this
  exact this.1.1.1
theorem tail_ne {l : List Nd} (h : rightT l = true) {x : Nd} (hx : x ∈ l.drop 1) : bs x.path ≠ [47] := by
  obtain ⟨r, t, rfl, hr, _⟩ := right_head h
  have hri := right_rises h
  intro e
  have := List.rel_of_pairwise_cons hri (show x ∈ t from hx)
  rw [hr, e, lt_irr] at this
  cases this
theorem tail_in {l : List Nd} {x : Nd} (h : x ∈ l.drop 1) : x ∈ l := List.mem_of_mem_drop h
theorem in_tail {l : List Nd} (h : rightT l = true) {x : Nd} (hx : x ∈ l) (hp : bs x.path ≠ [47]) : x ∈ l.drop 1 := by
  obtain ⟨r, t, rfl, hr, _⟩ := right_head h
  rcases List.mem_cons.1 hx with rfl | hx
  · exact (hp hr).elim
  · exact hx
/-- What is not the root stands in a directory. -/
theorem par_in {l : List Nd} (h : rightT l = true) {x : Nd} (hx : x ∈ l.drop 1) : ∃ z ∈ l, bs z.path = parD (bs x.path) ∧ z.dir = true := by
  simp only [rightT, Bool.and_eq_true, Bool.not_eq_true', List.any_eq_false] at h
  have := h.2 x hx
  rw [dirBad, dirE] at this
  cases hf : l.find? (fun y => bs y.path == parD (bs x.path)) with
  | none => rw [hf] at this; simp at this
  | some z =>
    rw [hf] at this
    have hz := List.find?_some hf
    refine ⟨z, List.mem_of_find?_eq_some hf, by simpa using hz, ?_⟩
    cases hd : z.dir
    · simp [hd] at this
    · rfl
theorem same_node {l : List Nd} (h : rightT l = true) {x y : Nd} (hx : x ∈ l) (hy : y ∈ l) (e : bs x.path = bs y.path) : x = y := by
  obtain ⟨i, hi, rfl⟩ := List.mem_iff_getElem.1 hx
  obtain ⟨j, hj, rfl⟩ := List.mem_iff_getElem.1 hy
  have := rises_inj (right_rises h) (i := i) (j := j) (x := l[i]) (y := l[j]) (by simp [hi]) (by simp [hj]) e
  subst this
  rfl
/-- Whatever a node is under is there, and is a directory, unless it is the node. -/
theorem up_in {l : List Nd} (h : rightT l = true) : ∀ (n : Nat) (y : Nd), y ∈ l → (splitL (bs y.path)).length = n → ∀ q, underL q (bs y.path) = true → ∃ z ∈ l, bs z.path = q ∧ (q ≠ bs y.path → z.dir = true) := by
  intro n
  induction n using Nat.strongRecOn with
  | _ n ih =>
    intro y hy hn q hq
    by_cases e : q = bs y.path
    · exact ⟨y, hy, e.symm, fun hne => (hne e).elim⟩
    · obtain ⟨hqE, hyE, hpre⟩ := under_iff.1 hq
      have hyr : bs y.path ≠ [47] := fun e47 => by
        rw [e47, show splitL [47] = [] by decide] at hpre
        have : splitL q = [] := List.prefix_nil.1 hpre
        exact e (by rw [e47]; exact Path.split_inj hqE (by decide) (by rw [this]; decide))
      obtain ⟨_, _, hdE, hup, hlen⟩ := path_form hyE hyr
      have hyt := in_tail h hy hyr
      obtain ⟨z, hz, hzp, hzd⟩ := par_in h hyt
      have hql : (splitL q).length ≤ (splitL (parD (bs y.path))).length := by
        have h1 := hpre.length_le
        have h2 : (splitL q).length ≠ (splitL (bs y.path)).length := fun hh => e (Path.split_inj hqE hyE (hpre.eq_of_length hh))
        omega
      have hqz : underL q (bs z.path) = true := by
        rw [hzp]
        exact under_iff.2 ⟨hqE, hdE, List.prefix_of_prefix_length_le hpre (under_iff.1 hup).2.2 hql⟩
      obtain ⟨u, hu, hup', hud⟩ := ih (splitL (bs z.path)).length (by rw [hzp]; omega) z hz rfl q hqz
      refine ⟨u, hu, hup', fun _ => ?_⟩
      by_cases e2 : q = bs z.path
      · have := same_node h hu hz (by rw [hup', e2])
        rw [this]; exact hzd
      · exact hud e2
end Go.Proofs.YtdfckkadmgmcaaaGreatDoor.Tree

/- Trees: a row of names that is sorted stays as it is; tree.good, tree.List. -/
namespace Go.Proofs.YtdfckkadmgmcaaaGreatDoor.Tree
open Go.RowKit
open Path (Bs bs mk bs_mk mk_bs tl_bs splitE splitL MaxC parD parE parN OwnS flatS flatS_map flatS_snoc etS rd_cellsS)
open Go.Sort (Holds putRow)
set_option linter.unusedSimpArgs false
set_option linter.unusedVariables false

theorem le_lt (x y : Bs) : decide (x ≤ y) = !ltB y x := by
  have : ltB y x = decide (y < x) := Go.Proofs.bytesLess_eq y x
  rw [this]
  by_cases h : y < x
  · rw [decide_eq_true h, decide_eq_false (fun hle => hle h)]; rfl
  · rw [decide_eq_false h, decide_eq_true (show x ≤ y from h)]; rfl
theorem sorted_same {l : List Bs} (h : l.Pairwise fun x y => ltB x y = true) : l.mergeSort (fun x y => decide (x ≤ y)) = l := by
  refine List.mergeSort_of_pairwise (h.imp fun {x y} hxy => ?_)
  rw [le_lt, lt_asym hxy]; rfl
theorem str_bs (x : ByteArray) : encStr (bs x) = .string x := rfl
theorem sort_calls (w w1 : World) (v : Value) (q : List ByteArray) (hO : OwnS w w1 v q) (hs : (q.map bs).Pairwise fun x y => ltB x y = true) (hn : q.length ≤ 1000) (hb : Below w.heap.size w w1) :
    Calls Tryz.prog 134 #[v] w1 fun e w' => e = .returned (.tuple #[]) ∧ OwnS w w' v q ∧ Below w.heap.size w w' := by
  have hnew := hO.new
  have hO' := hO
  have hm : (q.map bs).map encStr = flatS q := by
    rw [List.map_map, flatS_map]
    exact List.map_congr_left fun x _ => str_bs x
  rcases hO.own with ⟨_, ⟨rfl, h0⟩ | ⟨g, cap, cur, rfl, _, hg, hnc, hcm, hcs, htake⟩⟩
  · refine (Tryz.slices_Sort_string_none none 0 w1).mono ?_
    rintro e w' ⟨rfl, rfl⟩
    exact ⟨rfl, hO', hb⟩
  · have hH : Holds encStr w1 g 0 (q.map bs).toArray := holds_of_block hg (by rw [hm, List.length_map]; simpa using htake)
    have hc := Tryz.slices_Sort_string g 0 cap (q.map bs) w1 hH (lt_of_block hg) (by rw [List.length_map]; omega)
    rw [List.length_map, sorted_same hs] at hc
    refine hc.mono ?_
    rintro e w' ⟨rfl, n, os, rfl⟩
    have hgr := Go.grownBy_sorted (w := w1) (g := g) (n := n) (os := os) (q.map bs).toArray
    refine ⟨rfl, ⟨?_, hnew⟩, hb.grown hgr hb.size (fun k hk => by injection hk with hk; subst hk; exact hnew _ rfl)⟩
    have := Go.ownsRow_sorted (base := 0) (n := n) (os := os) (ss := q.map bs) (ts := q.map bs) rfl (Nat.zero_le _) hg (by rw [List.length_map]; exact hnc) hcm hcs
    rwa [List.length_map, hm] at this
end Go.Proofs.YtdfckkadmgmcaaaGreatDoor.Tree

/- Trees: tree.good, tree.List. -/
namespace Go.Proofs.YtdfckkadmgmcaaaGreatDoor.Tree
open Go.RowKit
open Path (Bs bs mk bs_mk mk_bs tl_bs splitE splitL MaxC parD parE parN OwnS flatS flatS_map flatS_snoc etS rd_cellsS)
set_option linter.unusedSimpArgs false
set_option linter.unusedVariables false

theorem good_calls (w : World) (p : ByteArray) (hM : MaxC w) :
    Calls Tryz.prog 133 #[.string p] w fun e w' => e = .returned (.bool (decide (splitE (bs p) = 0))) ∧ Below w.heap.size w w' := by
  have h1 := Path.split_calls w p hM
  have hb : ((splitE (bs p)) == 0) = decide (splitE (bs p) = 0) := rfl
  generalize splitE (bs p) = E at *
  generalize (splitL (bs p)).map mk = L at *
  by_cases h : E = 0
  all_goals
    first
    | have c1 : decide (E = 0) = true := decide_eq_true h
    | have c1 : decide (E = 0) = false := decide_eq_false h
    rw [c1] at hb ⊢
    clear hM h
    go_enter Tryz.func133, Tryz.ntmps133
    go_wp2_with (fail)
    refine h1.mono ?_
    rintro e w1 ⟨v1, rfl, hO, hb1⟩
    clear hO
    go_wp2_with (fail)
    go_ret
    exact ⟨rfl, hb1⟩

def listE (l : List Nd) (p : Bs) : Int := if rightT l = true ∧ splitE p = 0 then (match l.find? (fun x => bs x.path == p) with
  | none => 5
  | some x => if x.dir = true then 0 else 7) else 1
def nameOf (x : Nd) : ByteArray := mk (parN (bs x.path))
def listN (l : List Nd) (p : Bs) : List ByteArray := if listE l p = 0 then (childL l p).map nameOf else []
def preN (l : List Nd) (p : Bs) (k : Nat) : List ByteArray := (((l.drop 1).take k).filter fun x => parD (bs x.path) == p).map nameOf
theorem pre_no {l : List Nd} {p : Bs} {k : Nat} {x : Nd} (hx : (l.drop 1)[k]? = some x) (h : (parD (bs x.path) == p) = false) : preN l p (k + 1) = preN l p k := by
  rw [preN, List.take_add_one, hx, List.filter_append]
  simp [h, preN]
theorem pre_yes {l : List Nd} {p : Bs} {k : Nat} {x : Nd} (hx : (l.drop 1)[k]? = some x) (h : (parD (bs x.path) == p) = true) : preN l p (k + 1) = preN l p k ++ [nameOf x] := by
  rw [preN, List.take_add_one, hx, List.filter_append]
  simp [h, preN]
theorem pre_len (l : List Nd) (p : Bs) (k : Nat) : (preN l p k).length ≤ k := by
  rw [preN, List.length_map]
  exact Nat.le_trans (List.length_filter_le _ _) (List.length_take_le _ _)
theorem pre_end (l : List Nd) (p : Bs) : preN l p (l.drop 1).length = (childL l p).map nameOf := by rw [preN, List.take_length]; rfl
theorem names_rise {l : List Nd} (h : rightT l = true) (p : Bs) : (((childL l p).map nameOf).map bs).Pairwise fun x y => ltB x y = true := by
  rw [List.map_map, List.pairwise_map]
  have hp : (childL l p).Pairwise fun x y => ltB (bs x.path) (bs y.path) = true := ((right_rises h).sublist (List.drop_sublist 1 l)).sublist List.filter_sublist
  refine hp.imp_of_mem fun {a b} ha hb hab => ?_
  have form : ∀ c ∈ childL l p, bs c.path = inD p ++ parN (bs c.path) := fun c hc => by
    obtain ⟨h1, h2⟩ := List.mem_filter.1 hc
    have := (path_form (right_splits h (tail_in h1)) (tail_ne h h1)).1
    rw [beq_iff_eq] at h2
    rwa [h2] at this
  rw [form a ha, form b hb, lt_pre] at hab
  simpa [nameOf, bs_mk] using hab

set_option maxHeartbeats 4000000 in
theorem list_no (w : World) (v : Value) (l : List Nd) (p : ByteArray) (h : RdN w v l) (hn : l.length ≤ 8796093022208) (hM : MaxC w) (hE : listE l (bs p) ≠ 0) :
    Calls Tryz.prog 86 #[v, .string p] w fun e w' => e = .returned (.tuple #[.slice none 0 0, .int .i64 (listE l (bs p))]) ∧ Below w.heap.size w w' := by
  have h1 := right_calls w v l h hn hM
  have h2 : ∀ W, Below w.heap.size w W → _ := fun W hW => good_calls W p (hM.below hW)
  have hat := fun W (hW : Below w.heap.size w W) hs => at_calls W v l p (h.below hW) hs hn
  have hri := fun h => right_rises (l := l) h
  obtain ⟨ao, cap, rfl, _, _, hcell⟩ := rd_cellsN h.rd
  have hfi := has_find p l
  have hix := fun x hs => idx_has (key := p) (x := x) (l := l) hs
  rw [listE] at hE ⊢
  cases hr : rightT l
  · rw [hr] at h1
    clear hE hM h hcell hat hri hfi hix h2
    simp only [hr, Bool.false_eq_true, false_and, if_false]
    clear hr
    go_enter Tryz.func86, Tryz.ntmps86
    go_wp2_with (fail)
    refine h1.mono ?_
    rintro e w1 ⟨rfl, hb1⟩
    go_wp2_with (fail)
    go_ret2
    exact ⟨rfl, hb1⟩
  · rw [hr] at h1
    simp only [hr, true_and] at hE ⊢
    by_cases hs : splitE (bs p) = 0
    · rw [if_pos hs] at hE ⊢
      rw [decide_eq_true hs] at h2
      have hat1 := fun W hW => hat W hW (hri hr)
      have hix1 := fun x => hix x (hri hr)
      have Hcell := Lib.hid hcell
      clear hat hix hri hM h hs hr hcell
      cases hf : l.find? (fun x => bs x.path == bs p) with
      | none =>
        rw [hf] at hE hfi
        simp only [Option.isSome_none] at hfi
        have Hat := Lib.hid hat1; have H2 := Lib.hid h2; have Hfi := Lib.hid hfi
        clear hf hix1 hat1 h2 hfi hE
        go_enter Tryz.func86, Tryz.ntmps86
        go_wp2_with (fail)
        refine h1.mono ?_
        rintro e w1 ⟨rfl, hb1⟩
        clear h1
        go_wp2_with (fail)
        refine (H2.out w1 hb1).mono ?_
        rintro e w2 ⟨rfl, hb2⟩
        have hB2 := hb1.trans (hb2.mono hb1.size)
        have ha := Hat.out w2 hB2
        rw [Hfi.out] at ha
        go_wp2_with (fail)
        refine ha.mono ?_
        rintro e w3 ⟨rfl, hb3⟩
        clear ha
        go_wp2_with (fail)
        go_ret2
        exact ⟨rfl, hB2.trans (hb3.mono hB2.size)⟩
      | some x =>
        rw [hf] at hE hfi
        simp only [Option.isSome_some] at hfi
        have hx := hix1 x hf
        have hd : x.dir = false := by
          cases hd : x.dir
          · rfl
          · simp [hd] at hE
        have hxl := (List.getElem?_eq_some_iff.1 hx).1
        generalize idxN p l = i at *
        have Hat := Lib.hid hat1; have H2 := Lib.hid h2; have Hfi := Lib.hid hfi; have Hx := Lib.hid hx
        clear hf hix1 hat1 h2 hfi hE hx
        show Calls _ _ _ w fun e w' => e = .returned (.tuple #[.slice none 0 0, .int .i64 (if x.dir = true then 0 else 7)]) ∧ Below w.heap.size w w'
        rw [hd, if_neg (by simp)]
        have Hd := Lib.hid hd
        clear hd
        go_enter Tryz.func86, Tryz.ntmps86
        go_wp2_with (fail)
        refine h1.mono ?_
        rintro e w1 ⟨rfl, hb1⟩
        clear h1
        go_wp2_with (fail)
        refine (H2.out w1 hb1).mono ?_
        rintro e w2 ⟨rfl, hb2⟩
        have hB2 := hb1.trans (hb2.mono hb1.size)
        have ha := Hat.out w2 hB2
        rw [Hfi.out] at ha
        go_wp2_with (fail)
        refine ha.mono ?_
        rintro e w3 ⟨rfl, hb3⟩
        clear ha
        have hB3 := hB2.trans (hb3.mono hB2.size)
        obtain ⟨b, off, rfl, hbb, c0, c1, c2, c3, c4⟩ := Hcell.out w3 hB3 i x Hx.out
        rw [Hd.out] at c1
        go_wp2_with (fail)
        go_ret2
        exact ⟨rfl, hB3⟩
    · rw [if_neg hs]
      rw [decide_eq_false hs] at h2
      have H2 := Lib.hid h2
      clear hat hix hri hM h hs hr hcell hE hfi h2
      go_enter Tryz.func86, Tryz.ntmps86
      go_wp2_with (fail)
      refine h1.mono ?_
      rintro e w1 ⟨rfl, hb1⟩
      clear h1
      go_wp2_with (fail)
      refine (H2.out w1 hb1).mono ?_
      rintro e w2 ⟨rfl, hb2⟩
      go_wp2_with (fail)
      go_ret2
      exact ⟨rfl, hb1.trans (hb2.mono hb1.size)⟩
theorem ownS_alloc {w w' : World} {v : Value} {q : List ByteArray} (h : OwnS w w' v q) (o : Obj) : OwnS w (w'.alloc o) v q := ⟨h.own.alloc o, h.new⟩
theorem ownS_below {w w' w'' : World} {v : Value} {q : List ByteArray} (h : OwnS w w' v q) (hb : Below w'.heap.size w' w'') : OwnS w w'' v q :=
  ⟨below_ownsRow hb h.own (fun g hg => own_ltN h.own g hg), h.new⟩
/-- The nodes behind the root. -/
theorem sub_cells {w : World} {b off n cap : Nat} {l : List Nd} (h : RdN w (.slice (some ⟨b, off, none⟩) n cap) l) (hk : 1 ≤ n) : ∃ o c, (cap = 1 ∧ n = 1 ∧ o = off ∧ c = 0 ∨ 1 < cap ∧ o = off + 5 ∧ c = cap - 1) ∧ RdN w (.slice (some ⟨b, o, none⟩) (n - 1) c) (l.drop 1) := by
  have hbl : ∀ x ∈ l.drop 1, Rd w 3 encB x.bv x.blocks := fun x hx => h.bl x (List.mem_of_mem_drop hx)
  obtain ⟨ao, cap', hv, hc, _, _⟩ := h.rd
  simp only [Value.slice.injEq] at hv
  obtain ⟨_, rfl, rfl⟩ := hv
  by_cases hc1 : cap = 1
  · have hl1 : l.length = 1 := by omega
    have hd0 : l.drop 1 = [] := List.drop_eq_nil_of_le (by omega)
    refine ⟨off, 0, .inl ⟨hc1, hl1, rfl, rfl⟩, ?_, hbl⟩
    rw [hd0, hl1]
    exact ⟨_, _, rfl, Nat.le_refl _, Nat.zero_le _, fun i x hx => by cases hx⟩
  · exact ⟨off + 5, cap - 1, .inr ⟨by omega, rfl, rfl⟩, rd_dropN h.rd hk, hbl⟩

set_option maxRecDepth 4000 in
set_option maxHeartbeats 8000000 in
theorem list_yes (w : World) (v : Value) (l : List Nd) (p : ByteArray) (h : RdN w v l) (hn : l.length ≤ 8796093022208) (hM : MaxC w) (hE : listE l (bs p) = 0) :
    Calls Tryz.prog 86 #[v, .string p] w fun e w' => (∃ v', e = .returned (.tuple #[v', .int .i64 0]) ∧ OwnS w w' v' ((childL l (bs p)).map nameOf)) ∧ Below w.heap.size w w' := by
  rw [listE] at hE
  have hcd : rightT l = true ∧ splitE (bs p) = 0 := by
    by_cases hc : rightT l = true ∧ splitE (bs p) = 0
    · exact hc
    · rw [if_neg hc] at hE; cases hE
  rw [if_pos hcd] at hE
  obtain ⟨hr, hs⟩ := hcd
  obtain ⟨x0, hf, hd0⟩ : ∃ x, l.find? (fun x => bs x.path == bs p) = some x ∧ x.dir = true := by
    cases hf : l.find? (fun x => bs x.path == bs p) with
    | none => rw [hf] at hE; cases hE
    | some x =>
      rw [hf] at hE
      refine ⟨x, rfl, ?_⟩
      cases hd : x.dir
      · simp [hd] at hE
      · rfl
  have hri := right_rises hr
  have h1 := right_calls w v l h hn hM
  rw [hr] at h1
  have h2 : ∀ W, Below w.heap.size w W → _ := fun W hW => good_calls W p (hM.below hW)
  rw [decide_eq_true hs] at h2
  have hat := fun W (hW : Below w.heap.size w W) => at_calls W v l p (h.below hW) hri hn
  have hfi : hasN p l = true := by rw [has_find, hf]; rfl
  rw [hfi] at hat
  have hx := idx_has (key := p) hri hf
  have hpar : ∀ W, Below w.heap.size w W → ∀ q, Calls Tryz.prog 94 #[.string q] W (Path.ParPost W (parD (bs q)) (parN (bs q)) (parE (bs q))) := fun W hW q => Path.parent_calls W q (hM.below hW)
  have hpos : 1 ≤ l.length := by
    obtain ⟨x, t, rfl, _⟩ := right_head hr
    simp
  have h60 : l.length ≤ 60 := by
    simp only [rightT, rightA, Bool.and_eq_true] at hr
    cases l with
    | nil => simp
    | cons x t =>
      simp only [headOk, Bool.and_eq_true, decide_eq_true_eq] at hr
      exact hr.1.1.1.1
  have hrise := names_rise hr (bs p)
  have hreN := fun W (hW : Below w.heap.size w W) => h.below hW
  have hbvs : ∀ x ∈ l.drop 1, ∃ ao cap, x.bv = .slice ao x.blocks.length cap := fun x hx => bv_slice (h.bl x (List.mem_of_mem_drop hx))
  obtain ⟨ao, cap, rfl, hcap, _, hcell⟩ := rd_cellsN h.rd
  have hil := (List.getElem?_eq_some_iff.1 hx).1
  obtain ⟨b, off, rfl, hbb, _⟩ := hcell w (Below.refl _ _) _ x0 hx
  generalize idxN p l = i at *
  have Hcell := Lib.hid hcell; have Hx := Lib.hid hx; have H2 := Lib.hid h2; have Hat := Lib.hid hat; have Hpar := Lib.hid hpar; have Hrise := Lib.hid hrise; have HreN := Lib.hid hreN; have Hd0 := Lib.hid hd0; have Hbvs := Lib.hid hbvs
  have hsub := sub_cells h hpos
  clear hcell hx h2 hat hpar hrise hreN hd0 hf hri hr hs hE hfi h hM hbvs
  obtain ⟨o, c, hoc, hsubr⟩ := hsub
  obtain ⟨am, cm, hv', hcm, _, hcs⟩ := rd_cellsN hsubr.rd
  simp only [Value.slice.injEq] at hv'
  obtain ⟨rfl, -, rfl⟩ := hv'
  have Hcs := Lib.hid hcs
  have hsl : (l.drop 1).length = l.length - 1 := List.length_drop
  have Hsl := Lib.hid hsl
  clear hcs hsubr hsl
  generalize hlm : l.length = lm at *
  obtain ⟨m, rfl⟩ : ∃ m, lm = m + 1 := ⟨lm - 1, by omega⟩
  rw [Nat.add_sub_cancel] at Hsl
  have Hlm := Lib.hid hlm
  clear hlm
  go_enter Tryz.func86, Tryz.ntmps86
  go_wp2_with (fail)
  refine h1.mono ?_
  rintro e w1 ⟨rfl, hb1⟩
  clear h1
  go_wp2_with (fail)
  refine (H2.out w1 hb1).mono ?_
  rintro e w2 ⟨rfl, hb2⟩
  have hB2 := hb1.trans (hb2.mono hb1.size)
  go_wp2_with (fail)
  refine (Hat.out w2 hB2).mono ?_
  rintro e w3 ⟨rfl, hb3⟩
  have hB3 := hB2.trans (hb3.mono hB2.size)
  obtain ⟨b', off', he, _, d0, d1, d2, d3, d4⟩ := Hcell.out w3 hB3 i x0 Hx.out
  simp only [Option.some.injEq, Addr.mk.injEq, and_true] at he
  obtain ⟨rfl, rfl⟩ := he
  rw [Hd0.out] at d1
  clear d0 d2 d3 d4
  rcases hoc with ⟨rfl, hl1, rfl, rfl⟩ | ⟨hc1, rfl, rfl⟩
  focus
    obtain rfl : m = 0 := by omega
    have he : (childL l (bs p)).map nameOf = [] := by rw [← pre_end, Hsl.out]; rfl
    have hs := fun W (hb : Below w.heap.size w W) => sort_calls w W (.slice none 0 0) [] (OwnS.nil _ _) List.Pairwise.nil (by simp) hb
    have Hs := Lib.hid hs; have He := Lib.hid he
    clear hl1 he hs
    go_wp2_with (fail)
    clear d1
    go_loopw [8, 41] (fun vo vk wr => vk = .int .i64 0 ∧ vo = .slice none 0 0 ∧ wr = w3) (fun _ _ _ => 0)
    case atStart => exact ⟨rfl, rfl, rfl⟩
    case round =>
      obtain ⟨rfl, rfl, rfl⟩ := hrel
      go_wp2_with (fail)
      refine (Hs.out _ hB3).mono ?_
      rintro e w4 ⟨rfl, hO4, hb4⟩
      go_wp2_with (fail)
      go_ret2
      exact ⟨⟨_, rfl, by rw [He.out]; exact hO4⟩, hb4⟩
  focus
    go_wp2_with (fail)
    clear d1
    go_loopw [8, 41] (fun vo vk wr => ∃ k : Nat, vk = .int .i64 k ∧ k ≤ m ∧ OwnS w wr vo (preN l (bs p) k) ∧ Below w.heap.size w wr) (fun _ vk _ => m - (intOf vk).toNat)
    case atStart => exact ⟨0, rfl, Nat.zero_le _, OwnS.nil _ _, hB3⟩
    case round =>
      obtain ⟨k, rfl, hk, hO, hb⟩ := hrel
      have HO := Lib.hid hO
      have hsz := hb.size
      have hlen := pre_len l (bs p) k
      by_cases hlt : k < m
      · obtain ⟨x, hx⟩ : ∃ x, (l.drop 1)[k]? = some x := ⟨(l.drop 1)[k]'(by rw [Hsl.out]; omega), by rw [List.getElem?_eq_getElem]⟩
        obtain ⟨b', off', he, _, d0, d1, d2, d3, d4⟩ := Hcs.out wr hb k x hx
        simp only [Option.some.injEq, Addr.mk.injEq, and_true] at he
        obtain ⟨rfl, rfl⟩ := he
        obtain ⟨ax, cx, hbvx⟩ := Hbvs.out x (List.mem_of_getElem? hx)
        rw [hbvx] at d3
        have hA : Below w.heap.size w (wr.alloc (.cells #[.string x.path, .bool x.dir, .int .i64 x.quota, .slice ax x.blocks.length cx, .int .i64 x.writer] 35 (0, 0))) := hb.alloc hsz _
        have hp := Hpar.out (wr.alloc (.cells #[.string x.path, .bool x.dir, .int .i64 x.quota, .slice ax x.blocks.length cx, .int .i64 x.writer] 35 (0, 0))) hA x.path
        have Hx := Lib.hid hx
        clear hx hbvx hO
        cases hq : (parD (bs x.path) == bs p)
        · have hq' : ((mk (parD (bs x.path))).toList == p.toList) = false := by rw [tl_bs, tl_bs, bs_mk]; exact hq
          have Hnx := Lib.hid (pre_no Hx.out hq)
          clear hq
          go_wp2_with (fail)
          refine hp.mono ?_
          rintro e w4 ⟨rfl, hb4⟩
          have hb4' := hA.trans (hb4.mono hA.size)
          have hO4 := ownS_below (ownS_alloc HO.out (.cells #[.string x.path, .bool x.dir, .int .i64 x.quota, .slice ax x.blocks.length cx, .int .i64 x.writer] 35 (0, 0))) hb4
          go_wp2_with (fail)
          go_roundw
          case rel => exact ⟨k + 1, by go_num, by omega, by rw [Hnx.out]; exact hO4, hb4'⟩
          case measure => simp [intOf]; omega
        · have hq' : ((mk (parD (bs x.path))).toList == p.toList) = true := by rw [tl_bs, tl_bs, bs_mk]; exact hq
          have Hnx := Lib.hid (pre_yes Hx.out hq)
          have hown := HO.out.own
          generalize hw : (preN l (bs p) k).length = n1 at *
          have HW := Lib.hid (hown.alloc (.cells #[.string x.path, .bool x.dir, .int .i64 x.quota, .slice ax x.blocks.length cx, .int .i64 x.writer] 35 (0, 0))); have Hw := Lib.hid hw
          clear hq hown hw
          go_wp2_with (fail)
          refine hp.mono ?_
          rintro e w4 ⟨rfl, hb4⟩
          have hb4' := hA.trans (hb4.mono hA.size)
          have hO4 := below_ownsRow hb4 HW.out (fun g hg => own_ltN HW.out g hg)
          have HO4 := Lib.hid hO4
          clear hO4 hp
          go_wp2_with (at_builtin; (with_reducible refine etS.wpList1 (HO4.out.alloc _) (heap_alloc_new _ _) rfl (by simp [Value.oneCell']) (by omega) (by unfold maxLen; omega) rfl (.tmp 55) (.tmp 57) rfl rfl rfl ?_); intro g1 cap1 w5 hown1 hgrow hat hlt1)
          go_roundw
          case rel =>
            refine ⟨k + 1, by go_num, by omega, ?_, (hb4'.alloc hb4'.size _).grown hgrow (by have := hb4'.size; simp; omega) (fun q hq => HO.out.new q hq)⟩
            rw [Hnx.out]
            refine ⟨?_, fun g hg => ?_⟩
            · rw [List.length_append, Hw.out, flatS_snoc]
              exact hown1
            · simp only [Value.ownBlock, Option.some.injEq] at hg
              subst hg
              rcases hat with h | h
              · exact HO.out.new _ h
              · have := hb4'.size; simp at h; omega
          case measure => simp [intOf]; omega
      · obtain rfl : k = m := by omega
        have hO' := hO
        have he : preN l (bs p) k = (childL l (bs p)).map nameOf := by rw [← pre_end, Hsl.out]
        rw [he] at hO' hlen
        have hs := sort_calls w wr _ _ hO' Hrise.out (by omega) hb
        have Hs := Lib.hid hs
        clear hO hO' he hs hlen
        go_wp2_with (fail)
        refine Hs.out.mono ?_
        rintro e w4 ⟨rfl, hO4, hb4⟩
        go_wp2_with (fail)
        go_ret2
        exact ⟨⟨_, rfl, hO4⟩, hb4⟩
theorem list_calls (w : World) (v : Value) (l : List Nd) (p : ByteArray) (h : RdN w v l) (hn : l.length ≤ 8796093022208) (hM : MaxC w) :
    Calls Tryz.prog 86 #[v, .string p] w fun e w' => (∃ v', e = .returned (.tuple #[v', .int .i64 (listE l (bs p))]) ∧ OwnS w w' v' (listN l (bs p))) ∧ Below w.heap.size w w' := by
  rw [listN]
  by_cases hE : listE l (bs p) = 0
  · rw [hE, if_pos rfl]; exact list_yes w v l p h hn hM hE
  · rw [if_neg hE]
    refine (list_no w v l p h hn hM hE).mono ?_
    rintro e w' ⟨rfl, hb⟩
    exact ⟨⟨_, rfl, OwnS.nil _ _⟩, hb⟩
end Go.Proofs.YtdfckkadmgmcaaaGreatDoor.Tree
