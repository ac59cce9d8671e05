/- Paths: how the document cuts a path. -/
import Derived.Test.YtpghaghmejgjbaaGreatDoorPi
namespace Go.Proofs.YtpghaghmejgjbaaGreatDoor.Path
open Go.RowKit
set_option linter.unusedSimpArgs false
set_option linter.unusedVariables false

def flatP (q : List Bs) : Bs := q.flatMap fun n => 47 :: n
theorem flatP_cons (x : Bs) (q : List Bs) : flatP (x :: q) = 47 :: x ++ flatP q := rfl
theorem flatP_append (q r : List Bs) : flatP (q ++ r) = flatP q ++ flatP r := by simp [flatP]
theorem flat_join : ∀ {q : List Bs}, q ≠ [] → flatP q = joinP q
  | [], h => absurd rfl h
  | [x], _ => by rw [joinP, inter_one, flatP_cons]; simp [flatP]
  | x :: y :: r, _ => by
    have ih := flat_join (q := y :: r) (by simp)
    rw [flatP_cons, ih, joinP, joinP, inter_cons, List.cons_append]
theorem cut_no : ∀ (s : Bs) (x : Bs), x ∈ cutL s → (47 : UInt8) ∉ x
  | [], x, h => by simp [cutL] at h; subst h; simp
  | b :: t, x, h => by
    have ih := cut_no t
    by_cases hb : b = 47
    · subst hb
      rw [cut_slash] at h
      rcases List.mem_cons.1 h with rfl | h
      · simp
      · exact ih x h
    · cases hc : cutL t with
      | nil => exact absurd hc (cut_ne t)
      | cons y r =>
        rw [cut_other hb hc] at h
        rcases List.mem_cons.1 h with rfl | h
        · intro hm
          rcases List.mem_cons.1 hm with e | e
          · exact hb e.symm
          · exact ih y (by rw [hc]; simp) e
        · exact ih x (by rw [hc]; simp [h])
def offP (q : List Bs) (k : Nat) : Nat := (flatP (q.take k)).length
/-- Where a piece stands. -/
structure Piece (s : Bs) (q : List Bs) (k : Nat) (x : Bs) : Prop where
  len : offP q k + 1 + x.length ≤ s.length
  slash : s[offP q k]? = some 47
  at_ : ∀ j, j < x.length → ∃ b, s[offP q k + 1 + j]? = some b ∧ b ≠ 47
  stop : offP q k + 1 + x.length = s.length ∨ s[offP q k + 1 + x.length]? = some 47
  cut : (s.drop (offP q k + 1)).take x.length = x
  next : offP q (k + 1) = offP q k + 1 + x.length
theorem piece {s : Bs} {q : List Bs} (hs : s = flatP q) (hno : ∀ x ∈ q, (47 : UInt8) ∉ x) {k : Nat} {x : Bs} (hx : q[k]? = some x) : Piece s q k x := by
  obtain ⟨hk, hxe⟩ := List.getElem?_eq_some_iff.1 hx
  have hq : q = q.take k ++ x :: q.drop (k + 1) := by rw [← hxe, ← List.drop_eq_getElem_cons hk, List.take_append_drop]
  have hsp : s = flatP (q.take k) ++ (47 :: x ++ flatP (q.drop (k + 1))) := by
    rw [hs]
    conv => lhs; rw [hq]
    rw [flatP_append, flatP_cons]
  have hxm : (47 : UInt8) ∉ x := hno x (by rw [hq]; simp)
  have hnext : offP q (k + 1) = offP q k + 1 + x.length := by
    rw [offP, List.take_add_one, hx, Option.toList_some, flatP_append, List.length_append, offP, flatP_cons]
    simp [flatP]
    omega
  have hl : offP q k = (flatP (q.take k)).length := rfl
  have hlen : s.length = offP q k + (1 + x.length + (flatP (q.drop (k + 1))).length) := by
    rw [hsp, List.length_append, hl]; simp; omega
  refine ⟨by omega, ?_, fun j hj => ?_, ?_, ?_, hnext⟩
  · rw [hsp, List.getElem?_append_right (by omega), hl, Nat.sub_self]; rfl
  · refine ⟨x[j], ?_, fun e => hxm (e ▸ List.getElem_mem hj)⟩
    rw [hsp, List.getElem?_append_right (by omega), show offP q k + 1 + j - (flatP (q.take k)).length = j + 1 by omega, List.cons_append, List.getElem?_cons_succ, List.getElem?_append_left hj]
    simp [hj]
  · cases hd : q.drop (k + 1) with
    | nil =>
      left
      rw [hd] at hlen
      simp [flatP] at hlen
      omega
    | cons y r =>
      right
      rw [hsp, hd, List.getElem?_append_right (by omega), show offP q k + 1 + x.length - (flatP (q.take k)).length = x.length + 1 by omega, List.cons_append, List.getElem?_cons_succ, List.getElem?_append_right (Nat.le_refl _), Nat.sub_self, flatP_cons]
      rfl
  · rw [hsp, List.drop_append, List.drop_of_length_le (by omega), show offP q k + 1 - (flatP (q.take k)).length = 1 by omega, List.nil_append, List.cons_append, List.drop_succ_cons, List.drop_zero, List.take_left' rfl]
theorem off_end {s : Bs} {q : List Bs} (hs : s = flatP q) : offP q q.length = s.length := by rw [offP, List.take_length, hs]
theorem off_lt {s : Bs} {q : List Bs} (hs : s = flatP q) (hno : ∀ x ∈ q, (47 : UInt8) ∉ x) {k : Nat} (hk : k < q.length) : offP q k < s.length := by
  have := (piece hs hno (k := k) (x := q[k]) (by simp [hk])).len
  omega
theorem path_flat (s : Bs) (h : s.head? = some 47) : s = flatP (cutL s.tail) := by
  rw [flat_join (cut_ne _), joinP, join_cut]
  cases s with
  | nil => cases h
  | cons b t => simp at h; rw [h]; rfl
theorem extract_piece {p : ByteArray} {q : List Bs} {k : Nat} {x : Bs} (h : Piece (bs p) q k x) : p.extract (offP q k + 1) (offP q k + 1 + x.length) = mk x := by
  apply bs_inj
  rw [bs_mk]
  conv => rhs; rw [← h.cut]
  rw [bs, bs, Lib.extract_data]
  congr 1
  omega
end Go.Proofs.YtpghaghmejgjbaaGreatDoor.Path
