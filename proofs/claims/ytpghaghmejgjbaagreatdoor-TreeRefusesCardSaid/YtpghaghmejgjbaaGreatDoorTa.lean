/- Trees, in plain words; what a node may be: its blocks. -/
import Derived.Test.YtpghaghmejgjbaaGreatDoorPv
namespace Go.Proofs.YtpghaghmejgjbaaGreatDoor.Tree
open Go.RowKit
open Path (Bs bs mk bs_mk mk_bs tl_bs splitE splitL MaxC)
set_option linter.unusedSimpArgs false
set_option linter.unusedVariables false

structure Bl where
  id : Int
  gen : Int
  len : Int
def encB (x : Bl) : List Value := [.int .i64 x.id, .int .i64 x.gen, .int .i64 x.len]
theorem encB_len (x : Bl) : (encB x).length = 3 := rfl
structure Nd where
  path : ByteArray
  dir : Bool
  quota : Int
  blocks : List Bl
  bv : Value
  writer : Int
def encN (x : Nd) : List Value := [.string x.path, .bool x.dir, .int .i64 x.quota, x.bv, .int .i64 x.writer]
theorem encN_len (x : Nd) : (encN x).length = 5 := rfl
def oneB (n : Int) : Bool := decide (1 ≤ n) && decide (n ≤ 9007199254740991)
def okBl (b : Bl) : Bool := oneB b.id && oneB b.gen && decide (0 ≤ b.len) && decide (b.len ≤ 64)
def fitsN (x : Nd) : Bool := decide (splitE (bs x.path) = 0) && decide (-1 ≤ x.quota) && decide (-1 ≤ x.writer) &&
  (if x.dir = true then decide (x.blocks.length = 0) && decide (x.writer = -1) && decide (x.quota ≤ 9007199254740991)
   else !(bs x.path == [47]) && decide (x.quota = -1) && decide (x.writer < 4) && decide (x.blocks.length ≤ 8) && x.blocks.all okBl)

/-- What an element of a row of blocks reads as. -/
theorem rd_cellsB {w : World} {v : Value} {l : List Bl} (h : Rd w 3 encB v l) : ∃ ao cap, v = .slice ao l.length cap ∧ l.length ≤ cap ∧ cap ≤ maxLen ∧ ∀ W, Below w.heap.size w W → ∀ k x, l[k]? = some x →
    ∃ b off, ao = some ⟨b, off, none⟩ ∧ b < w.heap.size ∧ W.cell? ⟨b, off + k * 3, none⟩ = some (.int .i64 x.id) ∧ W.cell? ⟨b, off + k * 3 + 1, none⟩ = some (.int .i64 x.gen) ∧ W.cell? ⟨b, off + k * 3 + 2, none⟩ = some (.int .i64 x.len) := by
  obtain ⟨ao, cap, hv, hc, hcm, hcell⟩ := h
  refine ⟨ao, cap, hv, hc, hcm, fun W hW k x hx => ?_⟩
  obtain ⟨b, off, hb, hlt, hcl⟩ := hcell k x hx
  refine ⟨b, off, hb, hlt, ?_, ?_, ?_⟩
  · rw [hW.cell (p := ⟨b, off + k * 3, none⟩) hlt]; exact hcl 0 _ rfl
  · rw [hW.cell (p := ⟨b, off + k * 3 + 1, none⟩) hlt]; exact hcl 1 _ rfl
  · rw [hW.cell (p := ⟨b, off + k * 3 + 2, none⟩) hlt]; exact hcl 2 _ rfl

theorem one_calls (w : World) (n : Int) : Calls Tryz.prog 39 #[.int .i64 n] w fun e w' => e = .returned (.bool (oneB n)) ∧ w' = w := by
  by_cases h : 1 ≤ n
  · rw [oneB, decide_eq_true h, Bool.true_and]
    go_enter Tryz.func39, Tryz.ntmps39
    go_wp2_with (fail)
    go_ret
    exact ⟨rfl, rfl⟩
  · rw [oneB, decide_eq_false h, Bool.false_and]
    go_enter Tryz.func39, Tryz.ntmps39
    go_wp2_with (fail)
    go_ret
    exact ⟨rfl, rfl⟩

theorem bl_ways (x : Bl) : (oneB x.id = false ∧ okBl x = false) ∨ (oneB x.id = true ∧ oneB x.gen = false ∧ okBl x = false) ∨ (oneB x.id = true ∧ oneB x.gen = true ∧ x.len < 0 ∧ okBl x = false) ∨
    (oneB x.id = true ∧ oneB x.gen = true ∧ ¬ x.len < 0 ∧ 64 < x.len ∧ okBl x = false) ∨ (oneB x.id = true ∧ oneB x.gen = true ∧ ¬ x.len < 0 ∧ ¬ 64 < x.len ∧ okBl x = true) := by
  rw [okBl]
  cases oneB x.id
  · exact .inl ⟨rfl, rfl⟩
  · cases oneB x.gen
    · exact .inr (.inl ⟨rfl, rfl, rfl⟩)
    · by_cases h1 : x.len < 0
      · exact .inr (.inr (.inl ⟨rfl, rfl, h1, by rw [decide_eq_false (by omega : ¬ 0 ≤ x.len)]; rfl⟩))
      · by_cases h2 : 64 < x.len
        · exact .inr (.inr (.inr (.inl ⟨rfl, rfl, h1, h2, by rw [decide_eq_false (by omega : ¬ x.len ≤ 64), Bool.and_false]⟩)))
        · exact .inr (.inr (.inr (.inr ⟨rfl, rfl, h1, h2, by rw [decide_eq_true (by omega : 0 ≤ x.len), decide_eq_true (by omega : x.len ≤ 64)]; rfl⟩)))

set_option maxHeartbeats 2000000 in
theorem odd_calls (w : World) (bt : Nat) (x : Bl) (hc : w.heap[bt]? = some (.cells #[.func (.func 39) #[] #[]] 63 (0, 0))) :
    Calls Tryz.prog 40 #[.agg #[.int .i64 x.id, .int .i64 x.gen, .int .i64 x.len], .pointer (some ⟨bt, 0, none⟩)] w fun e w' => e = .returned (.bool (!okBl x)) ∧ Below w.heap.size w w' := by
  have hcc := cell_of_one hc
  have hbl := lt_of_block hc
  have h1 := fun W => one_calls W x.id
  have h2 := fun W => one_calls W x.gen
  rcases bl_ways x with ⟨c1, hr⟩ | ⟨c1, c2, hr⟩ | ⟨c1, c2, c3, hr⟩ | ⟨c1, c2, c3, c4, hr⟩ | ⟨c1, c2, c3, c4, hr⟩
  · rw [hr]
    rw [c1] at h1
    clear hr c1
    go_enter Tryz.func40, Tryz.ntmps40
    go_wp2_with (fail)
    refine (h1 _).mono ?_
    rintro e w1 ⟨rfl, rfl⟩
    go_wp2_with (fail)
    go_ret
    exact ⟨rfl, (Below.refl _ _).alloc (Nat.le_refl _) _⟩
  all_goals
    rw [hr]
    rw [c1] at h1
    rw [c2] at h2
    clear hr c1 c2
    go_enter Tryz.func40, Tryz.ntmps40
    go_wp2_with (fail)
    refine (h1 _).mono ?_
    rintro e w1 ⟨rfl, rfl⟩
    go_wp2_with (fail)
    refine (h2 _).mono ?_
    rintro e w1 ⟨rfl, rfl⟩
    go_wp2_with (fail)
    go_ret
    first
    | exact ⟨rfl, (Below.refl _ _).alloc (Nat.le_refl _) _⟩
    | exact ⟨ret_bool (by simp; omega), (Below.refl _ _).alloc (Nat.le_refl _) _⟩

def badB (x : Bl) : Bool := !okBl x
structure Sign (b : Bool) (i : Int) : Prop where
  yes : b = true → 0 ≤ i
  no : b = false → i = -1
theorem any_nextB {p : Bl → Bool} {l : List Bl} {k : Nat} {x : Bl} (hx : l[k]? = some x) (h : (l.take k).any p = false) (hp : p x = false) : (l.take (k + 1)).any p = false := by
  rw [List.take_add_one, hx]
  simp only [Option.toList_some, List.any_append, h, List.any_cons, hp, List.any_nil, Bool.or_self]
theorem any_hitB {p : Bl → Bool} {l : List Bl} {k : Nat} {x : Bl} (hx : l[k]? = some x) (hp : p x = true) : l.any p = true := List.any_eq_true.2 ⟨x, List.mem_of_getElem? hx, hp⟩

set_option maxHeartbeats 2000000 in
theorem idxb_calls (w : World) (bt : Nat) (v : Value) (l : List Bl) (hc : w.heap[bt]? = some (.cells #[.func (.func 39) #[] #[]] 63 (0, 0))) (h : Rd w 3 encB v l) (hn : l.length ≤ 8796093022208) :
    Calls Tryz.prog 72 #[v, .func (.func 40) #[] #[.pointer (some ⟨bt, 0, none⟩)]] w fun e w' => (∃ i : Int, e = .returned (.int .i64 i) ∧ Sign (l.any badB) i) ∧ Below w.heap.size w w' := by
  have hbl := lt_of_block hc
  have hod := fun W (hW : Below w.heap.size w W) x => odd_calls W bt x ((hW.block bt hbl).trans hc)
  obtain ⟨ao, cap, rfl, _, _, hcell⟩ := rd_cellsB h
  have Hcell := Lib.hid hcell; have Hod := Lib.hid hod; clear hcell h hod hc
  go_enter Tryz.func72, Tryz.ntmps72
  go_wp2_with (fail)
  go_loopw [8] (fun i wr => ∃ k : Nat, k ≤ l.length ∧ i = .int .i64 k ∧ Below w.heap.size w wr ∧ (l.take k).any badB = false) (fun i _ => l.length - (intOf i).toNat)
  case atStart => exact ⟨0, Nat.zero_le _, rfl, Below.refl _ _, rfl⟩
  case round =>
    obtain ⟨k, hk, rfl, hb, hnone⟩ := hrel
    have Hnone := Lib.hid hnone; clear hnone
    by_cases hlt : k < l.length
    · obtain ⟨x, hx⟩ : ∃ x, l[k]? = some x := ⟨l[k], by simp [hlt]⟩
      obtain ⟨b, off, rfl, hlb, c0, c1, c2⟩ := Hcell.out wr hb k x hx
      have Hx := Lib.hid hx; clear hx
      have hp := Hod.out wr hb x
      cases hbad : badB x
      · rw [show (!okBl x) = false from hbad] at hp
        have Hbad := Lib.hid hbad; clear hbad
        go_wp2_with (fail)
        refine hp.mono ?_
        rintro e w1 ⟨rfl, hb1⟩
        go_wp2_with (fail)
        go_roundw
        case rel => exact ⟨k + 1, by omega, by go_num, hb.trans (hb1.mono hb.size), any_nextB Hx.out Hnone.out Hbad.out⟩
        case measure => simp [intOf]; omega
      · rw [show (!okBl x) = true from hbad] at hp
        have hany := any_hitB Hx.out hbad
        have Hany := Lib.hid hany; clear hbad hany
        go_wp2_with (fail)
        refine hp.mono ?_
        rintro e w1 ⟨rfl, hb1⟩
        go_wp2_with (fail)
        go_ret
        exact ⟨⟨k, rfl, ⟨fun _ => by omega, fun h => (by rw [Hany.out] at h; cases h)⟩⟩, hb.trans (hb1.mono hb.size)⟩
    · obtain rfl : k = l.length := by omega
      have h0 := Hnone.out
      rw [List.take_length] at h0
      have H0 := Lib.hid h0; clear h0
      go_wp2_with (fail)
      go_ret
      exact ⟨⟨-1, rfl, ⟨fun h => (by rw [H0.out] at h; cases h), fun _ => rfl⟩⟩, hb⟩

theorem hasb_calls (w : World) (bt : Nat) (v : Value) (l : List Bl) (hc : w.heap[bt]? = some (.cells #[.func (.func 39) #[] #[]] 63 (0, 0))) (h : Rd w 3 encB v l) (hn : l.length ≤ 8796093022208) :
    Calls Tryz.prog 41 #[v, .func (.func 40) #[] #[.pointer (some ⟨bt, 0, none⟩)]] w fun e w' => e = .returned (.bool (l.any badB)) ∧ Below w.heap.size w w' := by
  have hi := idxb_calls w bt v l hc h hn
  obtain ⟨ao, cap, rfl, _, _, _⟩ := rd_cellsB h
  cases ha : l.any badB
  · rw [ha] at hi
    clear ha h hc
    go_enter Tryz.func41, Tryz.ntmps41
    go_wp2_with (fail)
    refine hi.mono ?_
    rintro e w1 ⟨⟨i, rfl, hs⟩, hb1⟩
    obtain rfl := hs.no rfl
    go_wp2_with (fail)
    go_ret
    exact ⟨rfl, hb1⟩
  · rw [ha] at hi
    clear ha h hc
    go_enter Tryz.func41, Tryz.ntmps41
    go_wp2_with (fail)
    refine hi.mono ?_
    rintro e w1 ⟨⟨i, rfl, hs⟩, hb1⟩
    have hi0 := hs.yes rfl
    go_wp2_with (fail)
    go_ret
    exact ⟨rfl, hb1⟩
end Go.Proofs.YtpghaghmejgjbaaGreatDoor.Tree
