/- Paths: rows of texts; slices.ContainsFunc under path.Split's and path.Join's own choices. -/
import Derived.Test.YtpghaghmejgjbaaGreatDoorPb
namespace Go.Proofs.YtpghaghmejgjbaaGreatDoor.Path
open Go.RowKit
set_option linter.unusedSimpArgs false

def encS (x : ByteArray) : List Value := [.string x]
def flatS (l : List ByteArray) : List Value := l.flatMap encS
theorem encS_len (x : ByteArray) : (encS x).length = 1 := rfl
theorem flatS_len (l : List ByteArray) : (flatS l).length = l.length := by rw [flatS, flat_length encS 1 encS_len, Nat.mul_one]
theorem flatS_snoc (l : List ByteArray) (x : ByteArray) : flatS (l ++ [x]) = flatS l ++ [.string x] := by simp [flatS, encS]
theorem flatS_map (l : List ByteArray) : flatS l = l.map Value.string := by induction l with | nil => rfl | cons x t ih => simp [flatS, encS] at ih ⊢; exact ih
theorem infoS : (Tryz.prog.info? 9).map (fun i => (i.zero, i.size, i.bytes)) = some (some (.string .empty), 1, 16) := by kernel_rfl
theorem etS : ET Tryz.prog 27 9 1 16 := ET.of Tryz.underlying27 infoS rfl (by decide) (by simp [Value.cells, Value.oneCell'])
/-- A slice of texts of the call's own. -/
structure OwnS (w w' : World) (v : Value) (q : List ByteArray) : Prop where
  own : w'.ownsRow 0 9 1 v q.length (flatS q)
  new : ∀ g, v.ownBlock = some g → w.heap.size ≤ g
theorem OwnS.rd {w w' : World} {v : Value} {q : List ByteArray} (h : OwnS w w' v q) : Rd w' 1 encS v q := Rd.of_own encS_len h.own
theorem OwnS.nil (w w' : World) : OwnS w w' (.slice none 0 0) [] := ⟨World.ownsRow_nil _ _ _ _, fun g h => by simp [Value.ownBlock] at h⟩
theorem rd_cellsS {w : World} {v : Value} {l : List ByteArray} (h : Rd w 1 encS v l) : ∃ ao cap, v = .slice ao l.length cap ∧ l.length ≤ cap ∧ cap ≤ maxLen ∧ ∀ W, Below w.heap.size w W → ∀ k x, l[k]? = some x →
    ∃ b off, ao = some ⟨b, off, none⟩ ∧ b < w.heap.size ∧ W.cell? ⟨b, off + k, none⟩ = some (.string x) := by
  obtain ⟨ao, cap, hv, hc, hcm, hcell⟩ := h
  refine ⟨ao, cap, hv, hc, hcm, fun W hW k x hx => ?_⟩
  obtain ⟨b, off, hb, hlt, hcl⟩ := hcell k x hx
  refine ⟨b, off, hb, hlt, ?_⟩
  have := hcl 0 _ rfl
  rw [Nat.mul_one] at this
  rw [hW.cell (p := ⟨b, off + k, none⟩) hlt]; exact this

structure Sign (b : Bool) (i : Int) : Prop where
  yes : b = true → 0 ≤ i
  no : b = false → i = -1
def badS (x : ByteArray) : Bool := !nameL (bs x)
def idxS (p : ByteArray → Bool) (l : List ByteArray) : Int := if l.any p then (l.findIdx p : Int) else -1
theorem any_next {p : ByteArray → Bool} {l : List ByteArray} {k : Nat} {x : ByteArray} (hx : l[k]? = some x) (h : (l.take k).any p = false) (hp : p x = false) : (l.take (k + 1)).any p = false := by
  rw [List.take_add_one, hx]
  simp only [Option.toList_some, List.any_append, h, List.any_cons, hp, List.any_nil, Bool.or_self]
theorem any_hit {p : ByteArray → Bool} {l : List ByteArray} {k : Nat} {x : ByteArray} (hx : l[k]? = some x) (hp : p x = true) : l.any p = true := List.any_eq_true.2 ⟨x, List.mem_of_getElem? hx, hp⟩

theorem pred1_calls (w : World) (x : ByteArray) : Calls Tryz.prog 71 #[.string x] w fun e w' => e = .returned (.bool (badS x)) ∧ Below w.heap.size w w' := by
  go_enter Tryz.func71, Tryz.ntmps71
  go_wp2_with (go_at_call 24; refine (name_calls _ x).mono ?_; rintro e w1 ⟨rfl, hb1⟩)
  go_ret
  exact ⟨rfl, hb1⟩

theorem idx1_calls (w : World) (v : Value) (l : List ByteArray) (h : Rd w 1 encS v l) (hn : l.length ≤ 8796093022208) :
    Calls Tryz.prog 94 #[v, .func (.func 71) #[] #[]] w fun e w' => (∃ i : Int, e = .returned (.int .i64 i) ∧ Sign (l.any badS) i) ∧ Below w.heap.size w w' := by
  obtain ⟨ao, cap, rfl, _, _, hcell⟩ := rd_cellsS h
  have Hcell := Lib.hid hcell; clear hcell h
  go_enter Tryz.func94, Tryz.ntmps94
  go_wp2
  go_loopw [8] (fun i wr => ∃ k : Nat, k ≤ l.length ∧ i = .int .i64 k ∧ Below w.heap.size w wr ∧ (l.take k).any badS = false) (fun i _ => l.length - (intOf i).toNat)
  case atStart => exact ⟨0, Nat.zero_le _, rfl, Below.refl _ _, rfl⟩
  case round =>
    obtain ⟨k, hk, rfl, hb, hnone⟩ := hrel
    have Hnone := Lib.hid hnone; clear hnone
    by_cases hlt : k < l.length
    · obtain ⟨x, hx⟩ : ∃ x, l[k]? = some x := ⟨l[k], by simp [hlt]⟩
      obtain ⟨b, off, rfl, hbl, c0⟩ := Hcell.out wr hb k x hx
      have Hx := Lib.hid hx; clear hx
      have hp := pred1_calls wr x
      cases hbad : badS x
      · rw [hbad] at hp
        have Hbad := Lib.hid hbad; clear hbad
        go_wp2_with (go_at_call 71; refine hp.mono ?_; rintro e w1 ⟨rfl, hb1⟩)
        go_roundw
        case rel => exact ⟨k + 1, by omega, by go_num, hb.trans (hb1.mono hb.size), any_next Hx.out Hnone.out Hbad.out⟩
        case measure => simp [intOf]; omega
      · rw [hbad] at hp
        have hany := any_hit Hx.out hbad
        have Hany := Lib.hid hany; clear hbad hany
        go_wp2_with (go_at_call 71; refine hp.mono ?_; rintro e w1 ⟨rfl, hb1⟩)
        go_ret
        exact ⟨⟨k, rfl, ⟨fun _ => by omega, fun h => by rw [Hany.out] at h; cases h⟩⟩, hb.trans (hb1.mono hb.size)⟩
    · obtain rfl : k = l.length := by omega
      have h0 := Hnone.out
      rw [List.take_length] at h0
      have H0 := Lib.hid h0; clear h0
      go_wp2
      go_ret
      exact ⟨⟨-1, rfl, ⟨fun h => (by rw [H0.out] at h; cases h), fun _ => rfl⟩⟩, hb⟩

theorem has1_calls (w : World) (v : Value) (l : List ByteArray) (h : Rd w 1 encS v l) (hn : l.length ≤ 8796093022208) :
    Calls Tryz.prog 70 #[v, .func (.func 71) #[] #[]] w fun e w' => e = .returned (.bool (l.any badS)) ∧ Below w.heap.size w w' := by
  have hi := idx1_calls w v l h hn
  obtain ⟨ao, cap, rfl, _, _, _⟩ := rd_cellsS h
  cases ha : l.any badS
  · rw [ha] at hi
    clear ha h
    go_enter Tryz.func70, Tryz.ntmps70
    go_wp2_with (go_at_call 94; refine hi.mono ?_; rintro e w1 ⟨⟨i, rfl, hs⟩, hb1⟩; obtain rfl := hs.no rfl)
    go_ret
    exact ⟨rfl, hb1⟩
  · rw [ha] at hi
    clear ha h
    go_enter Tryz.func70, Tryz.ntmps70
    go_wp2_with (go_at_call 94; refine hi.mono ?_; rintro e w1 ⟨⟨i, rfl, hs⟩, hb1⟩; have hi0 := hs.yes rfl)
    go_ret
    exact ⟨rfl, hb1⟩

theorem pred2_calls (w : World) (x : ByteArray) : Calls Tryz.prog 96 #[.string x] w fun e w' => e = .returned (.bool (badS x)) ∧ Below w.heap.size w w' := by
  go_enter Tryz.func96, Tryz.ntmps96
  go_wp2_with (go_at_call 24; refine (name_calls _ x).mono ?_; rintro e w1 ⟨rfl, hb1⟩)
  go_ret
  exact ⟨rfl, hb1⟩

theorem idx2_calls (w : World) (v : Value) (l : List ByteArray) (h : Rd w 1 encS v l) (hn : l.length ≤ 8796093022208) :
    Calls Tryz.prog 94 #[v, .func (.func 96) #[] #[]] w fun e w' => (∃ i : Int, e = .returned (.int .i64 i) ∧ Sign (l.any badS) i) ∧ Below w.heap.size w w' := by
  obtain ⟨ao, cap, rfl, _, _, hcell⟩ := rd_cellsS h
  have Hcell := Lib.hid hcell; clear hcell h
  go_enter Tryz.func94, Tryz.ntmps94
  go_wp2
  go_loopw [8] (fun i wr => ∃ k : Nat, k ≤ l.length ∧ i = .int .i64 k ∧ Below w.heap.size w wr ∧ (l.take k).any badS = false) (fun i _ => l.length - (intOf i).toNat)
  case atStart => exact ⟨0, Nat.zero_le _, rfl, Below.refl _ _, rfl⟩
  case round =>
    obtain ⟨k, hk, rfl, hb, hnone⟩ := hrel
    have Hnone := Lib.hid hnone; clear hnone
    by_cases hlt : k < l.length
    · obtain ⟨x, hx⟩ : ∃ x, l[k]? = some x := ⟨l[k], by simp [hlt]⟩
      obtain ⟨b, off, rfl, hbl, c0⟩ := Hcell.out wr hb k x hx
      have Hx := Lib.hid hx; clear hx
      have hp := pred2_calls wr x
      cases hbad : badS x
      · rw [hbad] at hp
        have Hbad := Lib.hid hbad; clear hbad
        go_wp2_with (go_at_call 96; refine hp.mono ?_; rintro e w1 ⟨rfl, hb1⟩)
        go_roundw
        case rel => exact ⟨k + 1, by omega, by go_num, hb.trans (hb1.mono hb.size), any_next Hx.out Hnone.out Hbad.out⟩
        case measure => simp [intOf]; omega
      · rw [hbad] at hp
        have hany := any_hit Hx.out hbad
        have Hany := Lib.hid hany; clear hbad hany
        go_wp2_with (go_at_call 96; refine hp.mono ?_; rintro e w1 ⟨rfl, hb1⟩)
        go_ret
        exact ⟨⟨k, rfl, ⟨fun _ => by omega, fun h => by rw [Hany.out] at h; cases h⟩⟩, hb.trans (hb1.mono hb.size)⟩
    · obtain rfl : k = l.length := by omega
      have h0 := Hnone.out
      rw [List.take_length] at h0
      have H0 := Lib.hid h0; clear h0
      go_wp2
      go_ret
      exact ⟨⟨-1, rfl, ⟨fun h => (by rw [H0.out] at h; cases h), fun _ => rfl⟩⟩, hb⟩

theorem has2_calls (w : World) (v : Value) (l : List ByteArray) (h : Rd w 1 encS v l) (hn : l.length ≤ 8796093022208) :
    Calls Tryz.prog 70 #[v, .func (.func 96) #[] #[]] w fun e w' => e = .returned (.bool (l.any badS)) ∧ Below w.heap.size w w' := by
  have hi := idx2_calls w v l h hn
  obtain ⟨ao, cap, rfl, _, _, _⟩ := rd_cellsS h
  cases ha : l.any badS
  · rw [ha] at hi
    clear ha h
    go_enter Tryz.func70, Tryz.ntmps70
    go_wp2_with (go_at_call 94; refine hi.mono ?_; rintro e w1 ⟨⟨i, rfl, hs⟩, hb1⟩; obtain rfl := hs.no rfl)
    go_ret
    exact ⟨rfl, hb1⟩
  · rw [ha] at hi
    clear ha h
    go_enter Tryz.func70, Tryz.ntmps70
    go_wp2_with (go_at_call 94; refine hi.mono ?_; rintro e w1 ⟨⟨i, rfl, hs⟩, hb1⟩; have hi0 := hs.yes rfl)
    go_ret
    exact ⟨rfl, hb1⟩
end Go.Proofs.YtpghaghmejgjbaaGreatDoor.Path
