/- Trees: the order of texts; rows of nodes; where a path stands (tree.at). -/
import Derived.Test.YtpghaghmejgjbaaGreatDoorTc
namespace Go.Proofs.YtpghaghmejgjbaaGreatDoor.Tree
open Go.RowKit
open Path (Bs bs mk bs_mk mk_bs tl_bs splitE splitL MaxC)
set_option linter.unusedSimpArgs false
set_option linter.unusedVariables false

def ltB (a b : Bs) : Bool := Op.bytesLess a b
theorem lt_irr : ∀ a : Bs, ltB a a = false
  | [] => rfl
  | x :: a => by
    have := lt_irr a
    simp only [ltB, Op.bytesLess] at this ⊢
    simp [this]
theorem lt_tri : ∀ a b : Bs, ltB a b = true ∨ a = b ∨ ltB b a = true
  | [], [] => .inr (.inl rfl)
  | [], _ :: _ => .inl rfl
  | _ :: _, [] => .inr (.inr rfl)
  | x :: a, y :: b => by
    simp only [ltB, Op.bytesLess]
    by_cases h1 : x < y
    · left; simp [h1]
    · by_cases h2 : x = y
      · subst h2
        rcases lt_tri a b with h | h | h
        · left; simp only [ltB] at h; simp [h]
        · right; left; rw [h]
        · right; right; simp only [ltB] at h; simp [h]
      · right; right
        have : y < x := UInt8.lt_of_le_of_ne (UInt8.not_lt.1 h1) (fun e => h2 e.symm)
        simp [this]
theorem lt_trans : ∀ a b c : Bs, ltB a b = true → ltB b c = true → ltB a c = true
  | _, _, [], _, h => by simp only [ltB] at h; rename_i b _ ; cases b <;> cases h
  | [], _, _ :: _, _, _ => rfl
  | x :: a, [], _ :: _, h, _ => by cases h
  | x :: a, y :: b, z :: c, h1, h2 => by
    simp only [ltB, Op.bytesLess, Bool.or_eq_true, Bool.and_eq_true, decide_eq_true_eq, beq_iff_eq] at h1 h2 ⊢
    rcases h1 with h1 | ⟨rfl, h1⟩
    · rcases h2 with h2 | ⟨rfl, h2⟩
      · exact .inl (UInt8.lt_trans h1 h2)
      · exact .inl h1
    · rcases h2 with h2 | ⟨rfl, h2⟩
      · exact .inl h2
      · exact .inr ⟨rfl, lt_trans a b c h1 h2⟩
theorem lt_asym {a b : Bs} (h : ltB a b = true) : ltB b a = false := by
  rw [Bool.eq_false_iff]
  intro h2
  have := lt_trans _ _ _ h h2
  rw [lt_irr] at this; cases this
theorem lt_ne {a b : Bs} (h : ltB a b = true) : a ≠ b := fun e => by rw [e, lt_irr] at h; cases h
theorem cmp_lt : ∀ a b : Bs, Lib.compareBytes a b = if ltB a b = true then -1 else if a = b then 0 else 1
  | [], [] => rfl
  | [], _ :: _ => rfl
  | _ :: _, [] => rfl
  | x :: a, y :: b => by
    have ih := cmp_lt a b
    simp only [ltB] at ih
    rw [Lib.compareBytes, ih]
    simp only [ltB, Op.bytesLess]
    by_cases h1 : x < y
    · simp [h1]
    · by_cases h2 : x = y
      · subst h2
        by_cases h3 : Op.bytesLess a b = true
        · simp [h3]
        · rw [Bool.not_eq_true] at h3
          by_cases h4 : a = b <;> simp [h3, h4]
      · have : y < x := UInt8.lt_of_le_of_ne (UInt8.not_lt.1 h1) (fun e => h2 e.symm)
        simp [h1, h2, this]

/-- A row of nodes, with their blocks. -/
structure RdN (w : World) (v : Value) (l : List Nd) : Prop where
  rd : Rd w 5 encN v l
  bl : ∀ x ∈ l, Rd w 3 encB x.bv x.blocks
theorem RdN.below {w w' : World} {v : Value} {l : List Nd} (h : RdN w v l) (hb : Below w.heap.size w w') : RdN w' v l :=
  ⟨h.rd.below hb (Nat.le_refl _), fun x hx => (h.bl x hx).below hb (Nat.le_refl _)⟩
theorem rd_cellsN {w : World} {v : Value} {l : List Nd} (h : Rd w 5 encN v l) : ∃ ao cap, v = .slice ao l.length cap ∧ l.length ≤ cap ∧ cap ≤ maxLen ∧ ∀ W, Below w.heap.size w W → ∀ k x, l[k]? = some x →
    ∃ b off, ao = some ⟨b, off, none⟩ ∧ b < w.heap.size ∧ W.cell? ⟨b, off + k * 5, none⟩ = some (.string x.path) ∧ W.cell? ⟨b, off + k * 5 + 1, none⟩ = some (.bool x.dir) ∧ W.cell? ⟨b, off + k * 5 + 2, none⟩ = some (.int .i64 x.quota) ∧ W.cell? ⟨b, off + k * 5 + 3, none⟩ = some x.bv ∧ W.cell? ⟨b, off + k * 5 + 4, none⟩ = some (.int .i64 x.writer) := by
  obtain ⟨ao, cap, hv, hc, hcm, hcell⟩ := h
  refine ⟨ao, cap, hv, hc, hcm, fun W hW k x hx => ?_⟩
  obtain ⟨b, off, hb, hlt, hcl⟩ := hcell k x hx
  refine ⟨b, off, hb, hlt, ?_, ?_, ?_, ?_, ?_⟩
  · rw [hW.cell (p := ⟨b, off + k * 5, none⟩) hlt]; exact hcl 0 _ rfl
  · rw [hW.cell (p := ⟨b, off + k * 5 + 1, none⟩) hlt]; exact hcl 1 _ rfl
  · rw [hW.cell (p := ⟨b, off + k * 5 + 2, none⟩) hlt]; exact hcl 2 _ rfl
  · rw [hW.cell (p := ⟨b, off + k * 5 + 3, none⟩) hlt]; exact hcl 3 _ rfl
  · rw [hW.cell (p := ⟨b, off + k * 5 + 4, none⟩) hlt]; exact hcl 4 _ rfl
theorem bv_slice {w : World} {x : Nd} (h : Rd w 3 encB x.bv x.blocks) : ∃ ao cap, x.bv = .slice ao x.blocks.length cap := by
  obtain ⟨ao, cap, hv, _⟩ := rd_cellsB h
  exact ⟨ao, cap, hv⟩

theorem by_calls (w : World) (x : Nd) (key : ByteArray) (hx : Rd w 3 encB x.bv x.blocks) :
    Calls Tryz.prog 63 #[.agg #[.string x.path, .bool x.dir, .int .i64 x.quota, x.bv, .int .i64 x.writer], .string key] w fun e w' => e = .returned (.int .i64 (Lib.compareBytes (bs x.path) (bs key))) ∧ Below w.heap.size w w' := by
  obtain ⟨ao, cap, hv⟩ := bv_slice hx
  rw [hv]
  have hc := fun W => Tryz.strings_Compare x.path key W
  clear hx hv
  go_enter Tryz.func63, Tryz.ntmps63
  go_wp2_with (fail)
  refine (hc _).mono ?_
  rintro e w1 ⟨rfl, rfl⟩
  go_wp2_with (fail)
  go_ret
  exact ⟨rfl, (Below.refl _ _).alloc (Nat.le_refl _) _⟩

/-- The paths rise. -/
def Rises (l : List Nd) : Prop := l.Pairwise fun x y => ltB (bs x.path) (bs y.path) = true
def idxN (key : ByteArray) (l : List Nd) : Nat := l.findIdx fun x => !ltB (bs x.path) (bs key)
def hasN (key : ByteArray) (l : List Nd) : Bool := l.any fun x => bs x.path == bs key
theorem idx_at {key : ByteArray} {l : List Nd} {i : Nat} (hi : i ≤ l.length) (h1 : ∀ p x, p < i → l[p]? = some x → ltB (bs x.path) (bs key) = true) (h2 : ∀ p x, i ≤ p → l[p]? = some x → ltB (bs x.path) (bs key) = false) : idxN key l = i := by
  by_cases hlt : i < l.length
  · rw [idxN, List.findIdx_eq hlt]
    refine ⟨by rw [h2 i l[i] (Nat.le_refl _) (by simp [hlt])]; rfl, fun j hj => by rw [h1 j l[j] hj (by simp)]; rfl⟩
  · have e : i = l.length := by omega
    subst e
    rw [idxN, List.findIdx_eq_length]
    intro x hx
    obtain ⟨p, hp, rfl⟩ := List.mem_iff_getElem.1 hx
    rw [h1 p l[p] hp (by simp [hp])]; rfl
theorem rises_get {l : List Nd} (h : Rises l) {p q : Nat} {x y : Nd} (hp : l[p]? = some x) (hq : l[q]? = some y) (hlt : p < q) : ltB (bs x.path) (bs y.path) = true := by
  obtain ⟨hp1, rfl⟩ := List.getElem?_eq_some_iff.1 hp
  obtain ⟨hq1, rfl⟩ := List.getElem?_eq_some_iff.1 hq
  exact List.pairwise_iff_getElem.1 h p q hp1 hq1 hlt
end Go.Proofs.YtpghaghmejgjbaaGreatDoor.Tree
