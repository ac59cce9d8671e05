/- Images, in plain words: a space's bytes. -/
import Derived.Test.YtgpddngbccecfaaDoorVb
import Derived.Test.YtgpddngbccecfaaDoorWh
namespace Go.Proofs.YtgpddngbccecfaaDoor.Image
open Go.RowKit
open Path (Bs bs mk bs_mk mk_bs tl_bs MaxC)
open Tree Space
open Wire (numB textB sealB)
set_option linter.unusedSimpArgs false
set_option linter.unusedVariables false
/-- A seal of what may be sealed, else nothing. -/
def sealS (t : Bs) : Bs := if t.length ≤ 4000 then sealB t else []
def numsL (l : List Int) : Bs := l.flatMap numB
def partB (h : Bs) (l : List Int) : Bs := sealS (h ++ numsL l)
def headI (s : Sp) : List Int := [s.txid, s.nb, s.ng, s.now, (s.nodes.length : Int), (s.leases.length : Int)]
def blkI (b : Bl) : List Int := [b.id, b.gen, b.len]
def nodeI (x : Nd) : List Int := [if x.dir = true then 1 else 0, x.quota, x.writer, (x.blocks.length : Int)] ++ x.blocks.flatMap blkI
def headB (s : Sp) : Bs := partB [84] (headI s)
def nodeB (x : Nd) : Bs := partB (textB (bs x.path)) (nodeI x)
def leaseB (x : Lease.Le) : Bs := partB [] [x.c, x.u]
def imageB (s : Sp) : Bs := headB s ++ s.nodes.flatMap nodeB ++ s.leases.flatMap leaseB
def encE (s : Sp) : Int := if spaceB s = true then 0 else 1
def encS (s : Sp) : Bs := if spaceB s = true then imageB s else []
theorem nums_snoc (l : List Int) (n : Int) : numsL (l ++ [n]) = numsL l ++ numB n := by simp [numsL]
theorem nums_app (l m : List Int) : numsL (l ++ m) = numsL l ++ numsL m := by simp [numsL]
theorem flat_take {α : Type} (f : α → Bs) {l : List α} {k : Nat} {x : α} (hx : l[k]? = some x) : (l.take (k + 1)).flatMap f = (l.take k).flatMap f ++ f x := by
  rw [List.take_add_one, hx]; simp
theorem flat_takeI {l : List Bl} {k : Nat} {x : Bl} (hx : l[k]? = some x) : (l.take (k + 1)).flatMap blkI = (l.take k).flatMap blkI ++ blkI x := by
  rw [List.take_add_one, hx]; simp
theorem seal_len (t : Bs) : (sealS t).length ≤ 4014 := by
  rw [sealS]
  split
  · rename_i h
    have := Wire.textB_len h
    rw [sealB, List.length_append, Wire.fourB_len]; omega
  · simp
theorem part_len (h : Bs) (l : List Int) : (partB h l).length ≤ 4014 := seal_len _
theorem flat_len {α : Type} (f : α → Bs) (n : Nat) (hf : ∀ x, (f x).length ≤ n) : ∀ l : List α, (l.flatMap f).length ≤ l.length * n
  | [] => by simp
  | x :: t => by
    have h1 := hf x
    have h2 := flat_len f n hf t
    rw [List.flatMap_cons, List.length_append, List.length_cons, Nat.add_mul]; omega
/-- Numbers that can be written. -/
def OkI (l : List Int) : Prop := ∀ n ∈ l, inI n
theorem nums_len : ∀ {l : List Int}, OkI l → (numsL l).length ≤ l.length * 10
  | [], _ => by simp [numsL]
  | n :: t, h => by
    have h1 := Wire.numB_len (h n (by simp))
    have h2 := nums_len (l := t) fun m hm => h m (List.mem_cons_of_mem _ hm)
    rw [numsL, List.flatMap_cons, List.length_append, List.length_cons, Nat.add_mul]
    rw [numsL] at h2
    omega
theorem inI_of_le {a : Int} (h1 : -9007199254740992 ≤ a) (h2 : a ≤ 9007199254740992) : inI a := ⟨by omega, by omega⟩
theorem inI_nat {n : Nat} (h : n ≤ 9223372036854775807) : inI (n : Int) := ⟨by omega, by omega⟩
/-- What a right space's parts are. -/
theorem space_parts {s : Sp} (h : spaceB s = true) : numsB s = true ∧ rightT s.nodes = true ∧ Lease.rightB s.leases = true := by
  simp only [spaceB, partsB, Bool.and_eq_true] at h
  exact ⟨h.1.1, h.1.2.1.1, h.1.2.1.2⟩
theorem head_ok {s : Sp} (h : spaceB s = true) (hn : s.nodes.length ≤ 8796093022208) (hl : s.leases.length ≤ 8796093022208) : OkI (headI s) := by
  obtain ⟨h1, -, -⟩ := space_parts h
  simp only [numsB, inB, Bool.and_eq_true, decide_eq_true_eq] at h1
  intro n hn'
  simp only [headI, List.mem_cons, List.not_mem_nil, or_false] at hn'
  rcases hn' with rfl | rfl | rfl | rfl | rfl | rfl
  · exact inI_of_le (by omega) (by omega)
  · exact inI_of_le (by omega) (by omega)
  · exact inI_of_le (by omega) (by omega)
  · exact inI_of_le (by omega) (by omega)
  · exact inI_nat (by omega)
  · exact inI_nat (by omega)
theorem fits_nums {x : Nd} (h : fitsN x = true) : -1 ≤ x.quota ∧ x.quota ≤ 9007199254740991 ∧ -1 ≤ x.writer ∧ x.writer < 4 ∧ x.blocks.length ≤ 8 ∧ (bs x.path).length ≤ 120 ∧ ∀ b ∈ x.blocks, okBl b = true := by
  simp only [fitsN, Bool.and_eq_true, decide_eq_true_eq] at h
  obtain ⟨⟨⟨h1, h2⟩, h3⟩, h4⟩ := h
  have hp : (bs x.path).length ≤ 120 := by
    by_cases hh : 120 < (bs x.path).length
    · rw [Path.splitE, if_pos hh] at h1; cases h1
    · omega
  by_cases hd : x.dir = true
  · rw [if_pos hd] at h4
    simp only [Bool.and_eq_true, decide_eq_true_eq] at h4
    have h0 : x.blocks = [] := List.eq_nil_of_length_eq_zero h4.1.1
    refine ⟨h2, h4.2, h3, by omega, by omega, hp, ?_⟩
    rw [h0]; intro b hb; cases hb
  · rw [if_neg hd] at h4
    simp only [Bool.and_eq_true, decide_eq_true_eq] at h4
    exact ⟨h2, by omega, h3, by omega, h4.1.2, hp, fun b hb => List.all_eq_true.1 h4.2 b hb⟩
theorem node_ok {x : Nd} (h : fitsN x = true) : OkI (nodeI x) := by
  obtain ⟨h1, h2, h3, h4, h5, -, h6⟩ := fits_nums h
  intro n hn
  simp only [nodeI, List.mem_append, List.mem_cons, List.not_mem_nil, or_false, List.mem_flatMap] at hn
  rcases hn with (rfl | rfl | rfl | rfl) | ⟨b, hb, hn⟩
  · split <;> exact inI_of_le (by omega) (by omega)
  · exact inI_of_le (by omega) (by omega)
  · exact inI_of_le (by omega) (by omega)
  · exact inI_nat (by omega)
  · have := h6 b hb
    simp only [okBl, oneB, Bool.and_eq_true, decide_eq_true_eq] at this
    simp only [blkI, List.mem_cons, List.not_mem_nil, or_false] at hn
    rcases hn with rfl | rfl | rfl <;> exact inI_of_le (by omega) (by omega)
theorem nodeI_len {x : Nd} (h : x.blocks.length ≤ 8) : (nodeI x).length ≤ 28 := by
  have : (x.blocks.flatMap blkI).length = x.blocks.length * 3 := by
    generalize x.blocks = l
    induction l with
    | nil => rfl
    | cons b t ih => rw [List.flatMap_cons, List.length_append, ih, List.length_cons, blkI]; simp; omega
  rw [nodeI, List.length_append, this]; simp; omega
theorem lease_ok {l : List Lease.Le} (h : Lease.rightB l = true) {x : Lease.Le} (hx : x ∈ l) : OkI [x.c, x.u] := by
  obtain ⟨k, hk⟩ := List.mem_iff_getElem?.1 hx
  obtain ⟨h1, h2, h3, h4, -⟩ := Lease.right_at h hk
  intro n hn
  simp only [List.mem_cons, List.not_mem_nil, or_false] at hn
  rcases hn with rfl | rfl <;> exact inI_of_le (by omega) (by omega)
end Go.Proofs.YtgpddngbccecfaaDoor.Image
