/- Images, in plain words: a space of parts. -/
import Derived.Test.YtgpddngbccecfaaDoorIa
import Derived.Test.YtgpddngbccecfaaDoorGc
namespace Go.Proofs.YtgpddngbccecfaaDoor.Image
open Go.RowKit
open Path (Bs bs mk bs_mk mk_bs tl_bs MaxC)
open Tree Space
open Wire (numB textB sealB takeN textT openE openT)
set_option linter.unusedSimpArgs false
set_option linter.unusedVariables false
/-- So many numbers at the beginning. -/
def takeNs : Nat → Bs → Option (List Int × Bs)
  | 0, b => some ([], b)
  | k + 1, b => match takeN b with
    | none => none
    | some (n, r) => match takeNs k r with
      | none => none
      | some (l, r') => some (n :: l, r')
theorem takeNs_nums : ∀ (l : List Int) (r : Bs), OkI l → takeNs l.length (numsL l ++ r) = some (l, r)
  | [], r, _ => rfl
  | n :: t, r, h => by
    have e : numsL (n :: t) ++ r = numB n ++ (numsL t ++ r) := by simp [numsL]
    rw [List.length_cons, takeNs, e, Wire.take_num (h n (by simp))]
    simp only [takeNs_nums t r fun m hm => h m (List.mem_cons_of_mem _ hm)]
/-- So many blocks at the beginning. -/
def blocksR : Nat → Bs → Option (List Bl × Bs)
  | 0, b => some ([], b)
  | k + 1, b => match takeNs 3 b with
    | some ([x, y, z], r) => match blocksR k r with
      | none => none
      | some (l, r') => some (⟨x, y, z⟩ :: l, r')
    | _ => none
theorem blocksR_nums : ∀ (l : List Bl) (r : Bs), OkI (l.flatMap blkI) → blocksR l.length (numsL (l.flatMap blkI) ++ r) = some (l, r)
  | [], r, _ => rfl
  | b :: t, r, h => by
    have e : numsL ((b :: t).flatMap blkI) ++ r = numsL (blkI b) ++ (numsL (t.flatMap blkI) ++ r) := by rw [List.flatMap_cons, nums_app, List.append_assoc]
    have h3 : takeNs 3 (numsL (blkI b) ++ (numsL (t.flatMap blkI) ++ r)) = some (blkI b, numsL (t.flatMap blkI) ++ r) := takeNs_nums (blkI b) _ fun m hm => h m (by rw [List.flatMap_cons]; exact List.mem_append_left _ hm)
    rw [List.length_cons, blocksR, e, h3]
    show (match blocksR t.length (numsL (t.flatMap blkI) ++ r) with | none => none | some (l, r') => some ((⟨b.id, b.gen, b.len⟩ : Bl) :: l, r')) = _
    rw [blocksR_nums t r fun m hm => h m (by rw [List.flatMap_cons]; exact List.mem_append_right _ hm)]
def nilV : Value := .slice none 0 0
/-- A part's node; what is left of the part. -/
def nodeR (t : Bs) : Option (Nd × Bs) := match textT t with
  | none => none
  | some (p, r) => match takeNs 4 r with
    | some ([k, q, w, m], r') => match blocksR m.toNat r' with
      | none => none
      | some (l, r'') => some (⟨mk p, decide (k = 1), q, l, nilV, w⟩, r'')
    | _ => none
def nodeT (x : Nd) : Bs := textB (bs x.path) ++ numsL (nodeI x)
theorem nodeR_nodeT {x : Nd} (h : fitsN x = true) (r : Bs) : nodeR (nodeT x ++ r) = some (pur x, r) := by
  obtain ⟨-, -, -, -, h5, hp, -⟩ := fits_nums h
  have hok := node_ok h
  have hb : OkI (x.blocks.flatMap blkI) := fun m hm => hok m (by rw [nodeI]; exact List.mem_append_right _ hm)
  have e : nodeT x ++ r = textB (bs x.path) ++ (numsL [if x.dir = true then 1 else 0, x.quota, x.writer, (x.blocks.length : Int)] ++ (numsL (x.blocks.flatMap blkI) ++ r)) := by
    rw [nodeT, nodeI, nums_app]; simp only [List.append_assoc]
  rw [nodeR, e, Wire.textT_textB _ _ (by omega)]
  simp only []
  have h4 := takeNs_nums [if x.dir = true then 1 else 0, x.quota, x.writer, (x.blocks.length : Int)] (numsL (x.blocks.flatMap blkI) ++ r) fun m hm => hok m (by rw [nodeI]; exact List.mem_append_left _ hm)
  rw [show (4 : Nat) = [if x.dir = true then (1 : Int) else 0, x.quota, x.writer, (x.blocks.length : Int)].length from rfl, h4]
  simp only [Int.toNat_natCast]
  rw [blocksR_nums _ _ hb]
  simp only [mk_bs]
  have hd : decide ((if x.dir = true then (1 : Int) else 0) = 1) = x.dir := by cases x.dir <;> rfl
  rw [hd]; rfl
def leaseR (t : Bs) : Option (Lease.Le × Bs) := match takeNs 2 t with
  | some ([c, u], r) => some (⟨c, u⟩, r)
  | _ => none
def leaseT (x : Lease.Le) : Bs := numsL [x.c, x.u]
theorem leaseR_leaseT {x : Lease.Le} (h : OkI [x.c, x.u]) (r : Bs) : leaseR (leaseT x ++ r) = some (x, r) := by
  rw [leaseR, leaseT, show (2 : Nat) = [x.c, x.u].length from rfl, takeNs_nums _ _ h]
/-- So many nodes, leases, of the parts. -/
def nodesR : Nat → List Bs → Option (List Nd × List Bs)
  | 0, l => some ([], l)
  | k + 1, [] => none
  | k + 1, t :: l => match nodeR t with
    | none => none
    | some (x, _) => match nodesR k l with
      | none => none
      | some (m, l') => some (x :: m, l')
def leasesR : Nat → List Bs → Option (List Lease.Le × List Bs)
  | 0, l => some ([], l)
  | k + 1, [] => none
  | k + 1, t :: l => match leaseR t with
    | none => none
    | some (x, _) => match leasesR k l with
      | none => none
      | some (m, l') => some (x :: m, l')
theorem nodesR_texts : ∀ (l : List Nd) (m : List Bs), (∀ x ∈ l, fitsN x = true) → nodesR l.length (l.map nodeT ++ m) = some (l.map pur, m)
  | [], m, _ => rfl
  | x :: t, m, h => by
    have h1 := nodeR_nodeT (h x (by simp)) []
    rw [List.append_nil] at h1
    rw [List.length_cons, List.map_cons, List.cons_append, nodesR, h1]
    simp only [nodesR_texts t m fun y hy => h y (List.mem_cons_of_mem _ hy), List.map_cons]
theorem leasesR_texts : ∀ (l : List Lease.Le) (m : List Bs), (∀ x ∈ l, OkI [x.c, x.u]) → leasesR l.length (l.map leaseT ++ m) = some (l, m)
  | [], m, _ => rfl
  | x :: t, m, h => by
    have h1 := leaseR_leaseT (h x (by simp)) []
    rw [List.append_nil] at h1
    rw [List.length_cons, List.map_cons, List.cons_append, leasesR, h1]
    simp only [leasesR_texts t m fun y hy => h y (List.mem_cons_of_mem _ hy)]
/-- The program's read: what is left of a part is not looked at. -/
def readP : List Bs → Option Sp
  | [] => none
  | h :: t => if h.head? = some 84 then (match takeNs 6 h.tail with
    | some ([a, b, c, d, n, l], _) => match nodesR n.toNat t with
      | none => none
      | some (ns, t') => match leasesR l.toNat t' with
        | none => none
        | some (ls, _) => some ⟨a, b, c, d, ns, ls, nilV, nilV⟩
    | _ => none) else none
/-- A space without its places in memory. -/
def purS (s : Sp) : Sp := { s with nodes := s.nodes.map pur, vn := nilV, vl := nilV }
def headT (s : Sp) : Bs := 84 :: numsL (headI s)
def texts (s : Sp) : List Bs := headT s :: (s.nodes.map nodeT ++ s.leases.map leaseT)
theorem head_read {s : Sp} (h : OkI (headI s)) : takeNs 6 (headT s).tail = some (headI s, []) := by
  have h1 := takeNs_nums (headI s) [] h
  rw [List.append_nil] at h1
  exact h1
theorem readP_texts {s : Sp} (h : spaceB s = true) : readP (texts s) = some (purS s) := by
  obtain ⟨-, h2, h3⟩ := space_parts h
  have hN : s.nodes.length ≤ 60 := right_len h2
  have hL : s.leases.length ≤ 4 := Lease.right_len h3
  have h6 := head_read (head_ok h (by omega) (by omega))
  have hns := nodesR_texts s.nodes (s.leases.map leaseT) fun x hx => right_fit h2 hx
  have hls := leasesR_texts s.leases [] fun x hx => lease_ok h3 hx
  rw [List.append_nil] at hls
  rw [texts, readP, if_pos (by rfl), h6]
  simp only [headI, Int.toNat_natCast, hns, hls]
  rfl
end Go.Proofs.YtgpddngbccecfaaDoor.Image
