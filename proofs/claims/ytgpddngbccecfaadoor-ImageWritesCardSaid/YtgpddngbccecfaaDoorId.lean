/- Images, in plain words: the document's reading of parts. -/
import Derived.Test.YtgpddngbccecfaaDoorIc
namespace Go.Proofs.YtgpddngbccecfaaDoor.Image
open Go.RowKit
open Path (Bs bs mk bs_mk mk_bs tl_bs MaxC)
open Tree Space
open Wire (numB textB sealB takeN textT openE openT)
set_option linter.unusedSimpArgs false
set_option linter.unusedVariables false
theorem take_lt {s r : Bs} {n : Int} (h : takeN s = some (n, r)) : r.length < s.length := by
  have h1 := (Wire.take_some h).2
  have h2 := List.length_pos_iff.2 (num_ne n)
  rw [h1, List.length_append]; omega
/-- All numbers of which a text is made. -/
def numsO (s : Bs) : Option (List Int) :=
  if s = [] then some [] else match h : takeN s with
    | none => none
    | some (n, r) => (numsO r).map (n :: ·)
termination_by s.length
decreasing_by exact take_lt h
theorem numsO_nil : numsO [] = some [] := by rw [numsO, if_pos rfl]
theorem numsO_cons {s r : Bs} {n : Int} (h : takeN s = some (n, r)) : numsO s = (numsO r).map (n :: ·) := by
  have hs : s ≠ [] := fun e => by subst e; have := take_lt h; simp at this
  rw [numsO, if_neg hs]
  split
  · rename_i h'; rw [h] at h'; cases h'
  · rename_i n' r' h'; rw [h] at h'; cases h'; rfl
theorem numsO_none {s : Bs} (hs : s ≠ []) (h : takeN s = none) : numsO s = none := by
  rw [numsO, if_neg hs]
  split
  · rfl
  · rename_i n' r' h'; rw [h] at h'; cases h'
theorem numsO_nums : ∀ (l : List Int), OkI l → numsO (numsL l) = some l
  | [], _ => numsO_nil
  | n :: t, h => by
    have e : numsL (n :: t) = numB n ++ numsL t := by simp [numsL]
    rw [e, numsO_cons (Wire.take_num (h n (by simp)) _), numsO_nums t fun m hm => h m (List.mem_cons_of_mem _ hm)]
    rfl
/-- What is so far, and what the rest tells. -/
def more (l : List Int) (x : Option (List Int)) : Option (List Int) := x.map (l ++ ·)
theorem more_nil (x : Option (List Int)) : more [] x = x := by cases x <;> rfl
theorem more_next {s r r' : Bs} {l : List Int} {n : Int} (h : takeN r = some (n, r')) (hinv : numsO s = more l (numsO r)) : numsO s = more (l ++ [n]) (numsO r') := by
  rw [hinv, numsO_cons h, more, more, Option.map_map]
  congr 1; funext x; simp
theorem more_stop {s r : Bs} {l : List Int} (hr : r ≠ []) (h : takeN r = none) (hinv : numsO s = more l (numsO r)) : numsO s = none := by
  rw [hinv, numsO_none hr h]; rfl
theorem more_end {s : Bs} {l : List Int} (hinv : numsO s = more l (numsO [])) : numsO s = some l := by
  rw [hinv, numsO_nil]; simp [more]
theorem numsO_ok : ∀ (k : Nat) {s : Bs} {l : List Int}, s.length ≤ k → numsO s = some l → OkI l ∧ s = numsL l
  | k, s, l, hk, h => by
    by_cases hs : s = []
    · subst hs; rw [numsO_nil] at h; cases h; exact ⟨fun n hn => (by cases hn), rfl⟩
    · cases ht : takeN s with
      | none => rw [numsO_none hs ht] at h; cases h
      | some x =>
        obtain ⟨n, r⟩ := x
        rw [numsO_cons ht] at h
        obtain ⟨h1, h2⟩ := Wire.take_some ht
        cases hr : numsO r with
        | none => rw [hr] at h; cases h
        | some m =>
          rw [hr] at h; cases h
          have hlt := take_lt ht
          match k with
          | 0 => omega
          | k + 1 =>
            obtain ⟨h3, h4⟩ := numsO_ok k (by omega) hr
            refine ⟨fun y hy => ?_, ?_⟩
            · rcases List.mem_cons.1 hy with rfl | hy
              · exact h1
              · exact h3 y hy
            · rw [h2, h4]; simp [numsL]
/-- Numbers as blocks, three by three. -/
def chunk3 : Nat → List Int → List Bl
  | 0, _ => []
  | k + 1, l => match l with
    | x :: y :: z :: t => ⟨x, y, z⟩ :: chunk3 k t
    | _ => []
theorem chunk3_blk : ∀ (l : List Bl), chunk3 l.length (l.flatMap blkI) = l
  | [] => rfl
  | b :: t => by rw [List.length_cons, List.flatMap_cons]; show (⟨b.id, b.gen, b.len⟩ : Bl) :: chunk3 t.length (t.flatMap blkI) = _; rw [chunk3_blk t]
theorem blk_len (l : List Bl) : (l.flatMap blkI).length = 3 * l.length := by
  induction l with
  | nil => rfl
  | cons b t ih => rw [List.flatMap_cons, List.length_append, ih, List.length_cons, blkI]; simp; omega
/-- A part's node, if the part is one. -/
def docNode (t : Bs) : Option Nd := match textT t with
  | none => none
  | some (p, r) => match numsO r with
    | some (k :: q :: w :: m :: bl) => if 0 ≤ m ∧ m ≤ 8 ∧ bl.length = 3 * m.toNat then some ⟨mk p, decide (k = 1), q, chunk3 m.toNat bl, nilV, w⟩ else none
    | _ => none
def docLease (t : Bs) : Option Lease.Le := match numsO t with
  | some [c, u] => some ⟨c, u⟩
  | _ => none
theorem docNode_nodeT {x : Nd} (h : fitsN x = true) : docNode (nodeT x) = some (pur x) := by
  obtain ⟨-, -, -, -, h5, hp, -⟩ := fits_nums h
  have hok := node_ok h
  have hn := numsO_nums (nodeI x) hok
  rw [docNode, nodeT, Wire.textT_textB _ _ (by omega)]
  simp only [hn]
  simp only [nodeI, List.cons_append, List.nil_append]
  rw [if_pos ⟨by omega, by omega, by rw [blk_len]; simp⟩, Int.toNat_natCast, chunk3_blk, mk_bs]
  have hd : decide ((if x.dir = true then (1 : Int) else 0) = 1) = x.dir := by cases x.dir <;> rfl
  rw [hd]; rfl
theorem docLease_leaseT {x : Lease.Le} (h : OkI [x.c, x.u]) : docLease (leaseT x) = some x := by
  rw [docLease, leaseT, numsO_nums _ h]
def allO {α : Type} (f : Bs → Option α) : List Bs → Option (List α)
  | [] => some []
  | t :: l => match f t with
    | none => none
    | some x => (allO f l).map (x :: ·)
theorem allO_map {α : Type} (f : Bs → Option α) (g : α → Bs) (h : α → α) : ∀ (l : List α), (∀ x ∈ l, f (g x) = some (h x)) → allO f (l.map g) = some (l.map h)
  | [], _ => rfl
  | x :: t, hf => by rw [List.map_cons, allO, hf x (by simp)]; simp only [allO_map f g h t fun y hy => hf y (List.mem_cons_of_mem _ hy)]; rfl
theorem allO_snoc {α : Type} (f : Bs → Option α) (t : Bs) : ∀ (l : List Bs), allO f (l ++ [t]) = (allO f l).bind fun m => (f t).map fun x => m ++ [x]
  | [] => by simp only [List.nil_append, allO]; cases f t <;> rfl
  | u :: l => by
    rw [List.cons_append, allO, allO, allO_snoc f t l]
    cases f u with
    | none => rfl
    | some y => cases allO f l with
      | none => rfl
      | some m => cases f t <;> rfl
/-- The document's read. -/
def readD : List Bs → Option Sp
  | [] => none
  | h :: t => if h.head? = some 84 then (match numsO h.tail with
    | some [a, b, c, d, n, l] => if 0 ≤ n ∧ 0 ≤ l ∧ (t.length : Int) = n + l then (match allO docNode (t.take n.toNat), allO docLease (t.drop n.toNat) with
      | some ns, some ls => some ⟨a, b, c, d, ns, ls, nilV, nilV⟩
      | _, _ => none) else none
    | _ => none) else none
theorem readD_texts {s : Sp} (h : spaceB s = true) : readD (texts s) = some (purS s) := by
  obtain ⟨-, h2, h3⟩ := space_parts h
  have hN : s.nodes.length ≤ 60 := right_len h2
  have hL : s.leases.length ≤ 4 := Lease.right_len h3
  have h6 := numsO_nums (headI s) (head_ok h (by omega) (by omega))
  have hns := allO_map docNode nodeT pur s.nodes fun x hx => docNode_nodeT (right_fit h2 hx)
  have hls := allO_map docLease leaseT id s.leases fun x hx => docLease_leaseT (lease_ok h3 hx)
  rw [List.map_id] at hls
  rw [texts, readD, if_pos (by rfl)]
  show (match numsO (numsL (headI s)) with | some [a, b, c, d, n, l] => _ | _ => none) = _
  rw [h6]
  simp only [headI, Int.toNat_natCast]
  rw [if_pos ⟨by omega, by omega, by simp⟩, List.take_left' (by simp), List.drop_left' (by simp), hns, hls]
  rfl
/-- What bytes are read as: the error, the space. -/
def decS (read : List Bs → Option Sp) (b : Bs) : Option Sp := if (openAll b).1 = 0 then (match read (openAll b).2 with
  | none => none
  | some s => if spaceB s = true ∧ imageB s = b then some s else none) else none
def decE (read : List Bs → Option Sp) (b : Bs) : Int := if (openAll b).1 = 0 then (if (decS read b).isSome = true then 0 else 2) else (openAll b).1
theorem right_pur' (l : List Nd) : rightT (l.map pur) = rightT l := by
  have e1 : ∀ l : List Nd, (l.map pur).length = l.length := fun l => by simp
  have hh : headOk (l.map pur) = headOk l := by cases l <;> simp [headOk, pur]
  have hk : ∀ k, okA (l.map pur) k = okA l k := fun k => by
    rw [okA, okA, List.getElem?_map]
    cases l[k]? with
    | none => rfl
    | some x =>
      have hx : fitsN (pur x) = fitsN x := rfl
      cases k with
      | zero => rfl
      | succ j =>
        show (fitsN (pur x) && (match (l.map pur)[j]? with | none => false | some y => ltB (bs y.path) (bs (pur x).path))) = (fitsN x && (match l[j]? with | none => false | some y => ltB (bs y.path) (bs x.path)))
        rw [hx, List.getElem?_map]
        cases l[j]? <;> rfl
  have hd : ∀ p, dirE (l.map pur) p = dirE l p := fun p => by
    rw [dirE, dirE, List.find?_map]
    have e : ((fun y : Nd => bs y.path == Path.parD p) ∘ pur) = fun y => bs y.path == Path.parD p := rfl
    rw [e]
    cases l.find? (fun y => bs y.path == Path.parD p) <;> rfl
  have hb : ((l.map pur).drop 1).any (dirBad (l.map pur)) = (l.drop 1).any (dirBad l) := by
    rw [← List.map_drop, List.any_map]
    congr 1; funext x
    show (dirE (l.map pur) (bs x.path) != 0) = _
    rw [hd]; rfl
  rw [rightT, rightT, rightA, rightA, hh, e1, hb]
  congr 2
  congr 1; funext k; exact hk k
end Go.Proofs.YtgpddngbccecfaaDoor.Image
