/- Parts of the proof, one behind the other: Ya, Yb, Yc, Yd, Ye, Yf, Yg, Bc. -/
import Derived.Test.YtdfckkadmgmcaaaGreatDoorGf
import Derived.Test.YtdfckkadmgmcaaaGreatDoorGc
import Derived.Test.YtdfckkadmgmcaaaGreatDoorGe
import Derived.Test.YtdfckkadmgmcaaaGreatDoorGd
import Derived.Test.YtdfckkadmgmcaaaGreatDoorGg
/- Edits of spaces, in plain words: which edits are right; what each makes of a space. -/
namespace Go.Proofs.YtdfckkadmgmcaaaGreatDoor.Space
open Go.RowKit
open Path (Bs bs mk bs_mk mk_bs tl_bs MaxC splitE splitL parD)
open Tree
open Quota (overL cntT roomT)
set_option linter.unusedSimpArgs false
set_option linter.unusedVariables false
/-- An edit; the value that its lengths have. -/
structure Ed where
  kind : Int
  path : ByteArray
  dst : ByteArray
  client : Int
  call : Int
  n : Int
  lens : List Int
  lv : Value
def edC (e : Ed) : Array Value := #[.int .i64 e.kind, .string e.path, .string e.dst, .int .i64 e.client, .int .i64 e.call, .int .i64 e.n, e.lv]
def lenB (n : Int) : Bool := inB n 0 9007199254740991
def leastE (k : Int) : Int := if k = 7 then -1 else 0
def mostE (k : Int) : Int := if k = 7 ∨ k = 8 ∨ k = 9 then 9007199254740991 else 0
/-- Which edits are right. -/
def editB (e : Ed) : Bool := decide (1 ≤ e.kind) && decide (e.kind ≤ 10) && decide (e.path.size ≤ 120) && decide (e.dst.size ≤ 120) && (decide (e.kind = 4) || decide (e.dst.size = 0)) &&
  (decide (e.kind = 5) || decide (e.kind = 6) || decide (e.lens.length = 0)) && decide (e.lens.length ≤ 8) && inB e.client 0 3 && inB e.call 0 9007199254740991 && inB e.n (leastE e.kind) (mostE e.kind) && e.lens.all lenB
/-- What an edit comes to: the error (0: none), the space, the block that is told. -/
structure Res where
  err : Int
  s : Sp
  b : Bl
def noBl : Bl := ⟨0, 0, 0⟩
def bad (s : Sp) (e : Int) : Res := ⟨e, s, noBl⟩
def newN (e : Ed) : Nd := ⟨e.path, decide (e.kind = 1), -1, [], .slice none 0 0, if e.kind = 1 then -1 else e.client⟩
def renS (s : Sp) (c : Int) : Sp := { s with leases := Lease.renR c s.now s.leases }
def setN (s : Sp) (i : Nat) (x : Nd) : Sp := { s with nodes := s.nodes.set i x }
def zipLen : List Bl → List Int → List Bl
  | b :: t, n :: m => { b with len := n } :: zipLen t m
  | l, _ => l
def lensOk (e : Ed) (x : Nd) : Bool := decide (e.lens.length = x.blocks.length) && !(e.lens.any fun n => decide (64 < n))
/-- What a file's writer does. -/
def doWrite (s : Sp) (e : Ed) (i : Nat) (x : Nd) : Res :=
  if e.kind = 9 then
    if (x.blocks.length : Int) ≤ e.n then bad s 1 else if s.ng = 9007199254740991 then bad s 4 else
    match x.blocks[e.n.toNat]? with
    | none => bad s 1
    | some b => ⟨0, { setN s i { x with blocks := x.blocks.set e.n.toNat { b with gen := s.ng } } with ng := s.ng + 1 }, { b with gen := s.ng }⟩
  else if lensOk e x = false then bad s 1
  else if e.kind = 6 then ⟨0, setN s i { x with blocks := zipLen x.blocks e.lens, writer := -1 }, noBl⟩
  else if 8 ≤ x.blocks.length ∨ s.nb = 9007199254740991 ∨ s.ng = 9007199254740991 then bad s 4
  else ⟨0, { setN s i { x with blocks := zipLen x.blocks e.lens ++ [⟨s.nb, s.ng, 0⟩] } with nb := s.nb + 1, ng := s.ng + 1 }, ⟨s.nb, s.ng, 0⟩⟩
/-- A node that must be there. -/
def atN (s : Sp) (p : Bs) (f : Nat → Nd → Res) : Res :=
  if splitE p ≠ 0 then bad s 1 else match s.nodes.findIdx? fun x => bs x.path == p with
    | none => bad s 5
    | some i => match s.nodes[i]? with
      | none => bad s 5
      | some x => f i x
def fileN (s : Sp) (p : Bs) (f : Nat → Nd → Res) : Res := atN s p fun i x => if x.dir = true then bad s 7 else f i x
/-- What an edit makes of a space. -/
def doE (s : Sp) (e : Ed) : Res :=
  if e.kind = 1 ∨ e.kind = 2 then
    if addE s.nodes (newN e) ≠ 0 then bad s (addE s.nodes (newN e))
    else if roomT s.nodes (parD (bs e.path)) < 1 then bad s 8
    else if e.kind = 1 then ⟨0, { s with nodes := addL s.nodes (newN e) }, noBl⟩
    else ⟨0, renS { s with nodes := addL s.nodes (newN e) } e.client, noBl⟩
  else if e.kind = 3 then
    if rmE s.nodes (bs e.path) ≠ 0 then bad s (rmE s.nodes (bs e.path)) else ⟨0, { s with nodes := rmL s.nodes (bs e.path) }, noBl⟩
  else if e.kind = 4 then
    if mvE s.nodes (bs e.path) (bs e.dst) ≠ 0 then bad s (mvE s.nodes (bs e.path) (bs e.dst))
    else if 0 < (overL (mvL s.nodes (bs e.path) (bs e.dst))).length then bad s 8
    else ⟨0, { s with nodes := mvL s.nodes (bs e.path) (bs e.dst) }, noBl⟩
  else if e.kind = 7 then atN s (bs e.path) fun i x =>
    if x.dir = false then bad s 7 else if 0 ≤ e.n ∧ e.n < cntT s.nodes (bs e.path) then bad s 8 else ⟨0, setN s i { x with quota := e.n }, noBl⟩
  else if e.kind = 8 then
    if e.n < s.now ∨ 9007199254740981 < e.n then bad s 1 else ⟨0, renS { s with now := e.n } e.client, noBl⟩
  else if e.kind = 10 then fileN s (bs e.path) fun i x =>
    if 0 ≤ x.writer then bad s 9 else ⟨0, renS (setN s i { x with writer := e.client }) e.client, noBl⟩
  else fileN s (bs e.path) fun i x => if x.writer ≠ e.client then bad s 9 else doWrite s e i x
/-- The edits whose answer tells the node. -/
def tells (k : Int) : Bool := decide (k = 2) || decide (k = 5) || decide (k = 6) || decide (k = 9) || decide (k = 10)
def zeroS : Sp := ⟨0, 0, 0, 0, [], [], .slice none 0 0, .slice none 0 0⟩
def zeroN : Nd := ⟨⟨#[]⟩, false, 0, [], .slice none 0 0, 0⟩
/-- Apply: the error, the space, the block, the node. -/
structure Ans where
  err : Int
  s : Sp
  b : Bl
  n : Nd
def noAns (e : Int) : Ans := ⟨e, zeroS, noBl, zeroN⟩
def applyE (s : Sp) (e : Ed) : Ans :=
  if spaceB s = false ∨ editB e = false then noAns 1 else if s.txid = 300 then noAns 4 else
  if (doE s e).err ≠ 0 then noAns (doE s e).err else
  ⟨0, { (doE s e).s with txid := s.txid + 1 }, (doE s e).b, if tells e.kind = true then ((doE s e).s.nodes.find? fun x => bs x.path == bs e.path).getD zeroN else zeroN⟩
end Go.Proofs.YtdfckkadmgmcaaaGreatDoor.Space

/- Edits of spaces, in plain words: right nodes that are changed in their place; counts and quotas. -/
namespace Go.Proofs.YtdfckkadmgmcaaaGreatDoor.Space
open Go.RowKit
open Path (Bs bs mk bs_mk mk_bs tl_bs MaxC splitE splitL parD underL)
open Tree
open Quota (overL overP cntN cntT roomT roomK roomStep dirAt)
set_option linter.unusedSimpArgs false
set_option linter.unusedVariables false
theorem rises_keys {l : List Nd} : Rises l ↔ (keys l).Pairwise fun a b => ltB a.1 b.1 = true := by
  rw [Rises, keys, List.pairwise_map]
theorem mem_keys {l : List Nd} {k : Bs × Bool} : k ∈ keys l ↔ ∃ x ∈ l, bs x.path = k.1 ∧ x.dir = k.2 := by
  rw [keys, List.mem_map]
  constructor
  · rintro ⟨x, hx, rfl⟩; exact ⟨x, hx, rfl, rfl⟩
  · rintro ⟨x, hx, h1, h2⟩; exact ⟨x, hx, by rw [h1, h2]⟩
/-- What makes a tree right hangs on the nodes' paths and kinds, and on each node's own rightness. -/
theorem right_keys {l m : List Nd} (e : keys m = keys l) (hf : ∀ x ∈ m, fitsN x = true) (h : RightP l) : RightP m := by
  have key : ∀ {x}, x ∈ m → ∃ y ∈ l, bs y.path = bs x.path ∧ y.dir = x.dir := fun {x} hx => by
    have : (bs x.path, x.dir) ∈ keys m := mem_keys.2 ⟨x, hx, rfl, rfl⟩
    rw [e] at this
    exact mem_keys.1 this
  have key' : ∀ {y}, y ∈ l → ∃ x ∈ m, bs x.path = bs y.path ∧ x.dir = y.dir := fun {y} hy => by
    have : (bs y.path, y.dir) ∈ keys l := mem_keys.2 ⟨y, hy, rfl, rfl⟩
    rw [← e] at this
    exact mem_keys.1 this
  refine ⟨?_, ?_, hf, ?_, ?_⟩
  · have := congrArg List.length e
    rw [keys, keys, List.length_map, List.length_map] at this
    rw [this]; exact h.len
  · rw [rises_keys, e, ← rises_keys]; exact h.rises
  · obtain ⟨y, hy, hp⟩ := h.root
    obtain ⟨x, hx, h1, h2⟩ := key' hy
    exact ⟨x, hx, h1.trans hp⟩
  · intro x hx hp
    obtain ⟨y, hy, h1, h2⟩ := key hx
    obtain ⟨z, hz, h3, h4⟩ := h.up y hy (by rw [h1]; exact hp)
    obtain ⟨u, hu, h5, h6⟩ := key' hz
    exact ⟨u, hu, by rw [h5, h3, h1], by rw [h6]; exact h4⟩
theorem keys_set {l : List Nd} {i : Nat} {x y : Nd} (hx : l[i]? = some x) (hp : y.path = x.path) (hd : y.dir = x.dir) : keys (l.set i y) = keys l := by
  rw [keys, keys, List.map_set, hp, hd]
  exact Lease.set_same (by rw [List.getElem?_map, hx]; rfl)
theorem right_set {l : List Nd} {i : Nat} {x y : Nd} (h : RightP l) (hx : l[i]? = some x) (hp : y.path = x.path) (hd : y.dir = x.dir) (hf : fitsN y = true) : RightP (l.set i y) := by
  refine right_keys (keys_set hx hp hd) (fun z hz => ?_) h
  rcases List.mem_or_eq_of_mem_set hz with hz | rfl
  · exact h.fits z hz
  · exact hf
theorem cnt_keys {l m : List Nd} (e : keys m = keys l) (p : Bs) : cntN m p = cntN l p := by
  have key : ∀ l : List Nd, cntN l p = ((keys l).filter fun k => underL p k.1).length := fun l => by
    rw [cntN, keys, List.filter_map, List.length_map]; rfl
  rw [key, key, e]
/-- No directory holds more than its quota. -/
def Kept (l : List Nd) : Prop := ∀ x ∈ l, x.dir = true → 0 ≤ x.quota → (cntN l (bs x.path) : Int) ≤ x.quota
theorem over_iff {l : List Nd} (h : rightT l = true) : (overL l).length = 0 ↔ Kept l := by
  rw [overL, if_pos h, List.length_map, List.length_eq_zero_iff, List.filter_eq_nil_iff]
  constructor
  · intro h1 x hx hd hq
    have := h1 x hx
    simp only [overP, hd, Bool.true_and, decide_eq_true hq, decide_eq_true_eq] at this
    omega
  · intro h1 x hx hp
    simp only [overP, Bool.and_eq_true, decide_eq_true_eq] at hp
    have := h1 x hx hp.1.1 hp.1.2
    omega
theorem kept_filter {l : List Nd} (h : Kept l) (f : Nd → Bool) : Kept (l.filter f) := by
  intro x hx hd hq
  have h1 := h x (List.mem_filter.1 hx).1 hd hq
  have h2 : cntN (l.filter f) (bs x.path) ≤ cntN l (bs x.path) := by
    rw [cntN, cntN, List.filter_filter, ← List.countP_eq_length_filter, ← List.countP_eq_length_filter]
    exact List.countP_mono_left fun y _ hy => by simp only [Bool.and_eq_true] at hy; exact hy.1
  omega
theorem kept_pur (l : List Nd) : Kept (l.map pur) ↔ Kept l := by
  have hc : ∀ p, cntN (l.map pur) p = cntN l p := fun p => by rw [cntN, cntN, List.filter_map, List.length_map]; rfl
  constructor
  · intro h x hx hd hq
    have := h (pur x) (List.mem_map_of_mem hx) hd hq
    rwa [hc] at this
  · intro h x hx hd hq
    obtain ⟨y, hy, rfl⟩ := List.mem_map.1 hx
    rw [hc]; exact h y hy hd hq
theorem kept_set {l : List Nd} {i : Nat} {x y : Nd} (h : Kept l) (hx : l[i]? = some x) (hp : y.path = x.path) (hd : y.dir = x.dir) (hq : y.dir = true → 0 ≤ y.quota → (cntN l (bs x.path) : Int) ≤ y.quota) : Kept (l.set i y) := by
  intro z hz hzd hzq
  rw [cnt_keys (keys_set hx hp hd)]
  rcases List.mem_or_eq_of_mem_set hz with hz | rfl
  · exact h z hz hzd hzq
  · rw [hp]; exact hq hzd hzq
theorem step_le (l : List Nd) (p : Bs) (n : Int) (x : Nd) : roomStep l p n x ≤ n := by
  rw [roomStep]; split <;> omega
theorem room_mono (l : List Nd) (p : Bs) : ∀ (m : List Nd) (n : Int), m.foldl (roomStep l p) n ≤ n
  | [], n => Int.le_refl _
  | x :: t, n => by
    rw [List.foldl_cons]
    exact Int.le_trans (room_mono l p t _) (step_le l p n x)
theorem room_mem (l : List Nd) (p : Bs) {x : Nd} (hq : 0 ≤ x.quota) (hu : underL (bs x.path) p = true) : ∀ (m : List Nd) (n : Int), x ∈ m → m.foldl (roomStep l p) n ≤ x.quota - cntN l (bs x.path)
  | [], n, h => by cases h
  | y :: t, n, h => by
    rw [List.foldl_cons]
    rcases List.mem_cons.1 h with rfl | h
    · refine Int.le_trans (room_mono l p t _) ?_
      rw [roomStep, if_pos ⟨hq, hu⟩]; omega
    · exact room_mem l p hq hu t _ h
/-- Where there is room, whoever stands above has room. -/
theorem room_above {l : List Nd} {p : Bs} (h : ¬ roomT l p < 1) {x : Nd} (hx : x ∈ l) (hq : 0 ≤ x.quota) (hu : underL (bs x.path) p = true) : (cntN l (bs x.path) : Int) + 1 ≤ x.quota := by
  rw [roomT] at h
  split at h
  · have h1 := room_mem l p hq hu l (60 - l.length) hx
    have h2 : roomK l p l.length = l.foldl (roomStep l p) (60 - l.length) := by rw [roomK, List.take_length]
    omega
  · omega
theorem cnt_ins (n : Nd) (p : Bs) (l : List Nd) : cntN (ins n l) p = cntN l p + if underL p (bs n.path) = true then 1 else 0 := by
  have hp := (ins_perm n l).filter fun x => underL p (bs x.path)
  rw [cntN, hp.length_eq, cntN, List.filter_cons]
  split <;> simp
theorem kept_ins {l : List Nd} {n : Nd} (h : Kept l) (hE : addE l n = 0) (hr : ¬ roomT l (parD (bs n.path)) < 1) (hq : n.quota < 0) : Kept (ins n l) := by
  intro x hx hd hxq
  rw [cnt_ins]
  have hx' := (ins_perm n l).mem_iff.1 hx
  rcases List.mem_cons.1 hx' with rfl | hxl
  · omega
  · have h1 := h x hxl hd hxq
    split
    · rename_i hu
      obtain ⟨_, _, _, hno, _, _⟩ := addE_zero hE
      have hne : bs x.path ≠ bs n.path := find_none.1 hno x hxl
      have := room_above hr hxl hxq (under_par hu hne).2
      omega
    · omega
end Go.Proofs.YtdfckkadmgmcaaaGreatDoor.Space

/- Edits of spaces, in plain words: what an edit makes of a right space is right. -/
namespace Go.Proofs.YtdfckkadmgmcaaaGreatDoor.Space
open Go.RowKit
open Path (Bs bs mk bs_mk mk_bs tl_bs MaxC splitE splitL parD underL)
open Tree
open Quota (overL overP cntN cntT roomT roomK roomStep dirAt)
set_option linter.unusedSimpArgs false
set_option linter.unusedVariables false
/-- A right space, part by part. -/
structure RightS (s : Sp) : Prop where
  nums : 0 ≤ s.txid ∧ s.txid ≤ 300 ∧ 1 ≤ s.nb ∧ s.nb ≤ 9007199254740991 ∧ 1 ≤ s.ng ∧ s.ng ≤ 9007199254740991 ∧ 0 ≤ s.now ∧ s.now ≤ 9007199254740981
  tree : RightP s.nodes
  lease : Lease.rightB s.leases = true
  kept : Kept s.nodes
  wr : okW s.leases s.nodes
  bl : okP s.nb s.ng (allB s.nodes)
theorem nums_iff (s : Sp) : numsB s = true ↔ (0 ≤ s.txid ∧ s.txid ≤ 300 ∧ 1 ≤ s.nb ∧ s.nb ≤ 9007199254740991 ∧ 1 ≤ s.ng ∧ s.ng ≤ 9007199254740991 ∧ 0 ≤ s.now ∧ s.now ≤ 9007199254740981) := by
  simp only [numsB, inB, Bool.and_eq_true, decide_eq_true_eq]
  constructor
  · intro h; omega
  · intro h; omega
theorem right_iff (s : Sp) : spaceB s = true ↔ RightS s := by
  constructor
  · intro h
    simp only [spaceB, partsB, restB, Bool.and_eq_true, decide_eq_true_eq] at h
    obtain ⟨⟨h1, ⟨h2, h3⟩, h4⟩, h5, h6⟩ := h
    exact ⟨(nums_iff s).1 h1, right_p h2, h3, (over_iff h2).1 h4, h5, h6⟩
  · rintro ⟨h1, h2, h3, h4, h5, h6⟩
    have hr := p_right h2
    rw [spaceB, (nums_iff s).2 h1, partsB, hr, h3, decide_eq_true ((over_iff hr).2 h4), restB, decide_eq_true h5, decide_eq_true h6]; rfl
theorem okP_perm {nb ng : Int} {B C : List Bl} (h : B.Perm C) (hB : okP nb ng B) : okP nb ng C :=
  ⟨(h.map _).nodup_iff.1 hB.1, fun b hb => hB.2 b (h.mem_iff.2 hb)⟩
theorem okP_sub {nb ng : Int} {B C : List Bl} (h : C.Sublist B) (hB : okP nb ng B) : okP nb ng C :=
  ⟨(h.map _).nodup hB.1, fun b hb => hB.2 b (h.mem hb)⟩
theorem allB_pur (l : List Nd) : allB (l.map pur) = allB l := by rw [allB, List.flatMap_map]; rfl
theorem allB_ins (n : Nd) (l : List Nd) : (allB (ins n l)).Perm (n.blocks ++ allB l) := (ins_perm n l).flatMap_right _
theorem allB_filter (f : Nd → Bool) (l : List Nd) : (allB (l.filter f)).Sublist (allB l) := by
  induction l with
  | nil => exact List.Sublist.refl _
  | cons x t ih =>
    rw [List.filter_cons]
    split
    · exact (List.Sublist.refl _).append ih
    · exact ih.trans (List.sublist_append_right _ _)
theorem allB_mvD (l : List Nd) (a b : Bs) : allB (mvD l a b) = allB (l.filter (mvK a b)) := by
  rw [mvD, allB, allB, List.flatMap_map]
  congr 1; funext x
  show (mvN a b x).blocks = x.blocks
  rw [mvN]; split <;> rfl
theorem allB_mv (l : List Nd) (a b : Bs) : ∃ C : List Bl, C.Sublist (allB l) ∧ C.Perm (allB (mvL l a b)) := by
  refine ⟨allB (mvD l a b), ?_, ?_⟩
  · rw [allB_mvD]; exact allB_filter _ _
  · rw [mvL, allB_pur]; exact ((sortd_perm (mvD l a b)).flatMap_right _).symm
theorem set_split {l : List Nd} {i : Nat} {x : Nd} (hx : l[i]? = some x) : l = l.take i ++ x :: l.drop (i + 1) := by
  obtain ⟨hlt, rfl⟩ := List.getElem?_eq_some_iff.1 hx
  rw [List.getElem_cons_drop, List.take_append_drop]
theorem allB_at {l : List Nd} {i : Nat} {x : Nd} (hx : l[i]? = some x) : allB l = allB (l.take i) ++ (x.blocks ++ allB (l.drop (i + 1))) := by
  conv => lhs; rw [set_split hx]
  rw [allB, List.flatMap_append, List.flatMap_cons]; rfl
theorem allB_set {l : List Nd} {i : Nat} {x y : Nd} (hx : l[i]? = some x) : allB (l.set i y) = allB (l.take i) ++ (y.blocks ++ allB (l.drop (i + 1))) := by
  have hlt := (List.getElem?_eq_some_iff.1 hx).1
  rw [List.set_eq_take_append_cons_drop, if_pos hlt, allB, List.flatMap_append, List.flatMap_cons]; rfl
theorem okW_set {ls : List Lease.Le} {l : List Nd} {i : Nat} {y : Nd} (h : okW ls l) (hy : 0 ≤ y.writer → Lease.untilB y.writer ls = true) : okW ls (l.set i y) := by
  intro z hz
  rcases List.mem_or_eq_of_mem_set hz with hz | rfl
  · exact h z hz
  · exact hy
theorem ren_is {c now : Int} {l : List Lease.Le} (h : Lease.renOk c now l = true) : Lease.renR c now l = Lease.renQ c now l := by rw [Lease.renR, if_pos h]
theorem okW_ren {c now : Int} {ls : List Lease.Le} {l : List Nd} (h : Lease.renOk c now ls = true) (hw : okW ls l) : okW (Lease.renR c now ls) l := by
  intro x hx h0
  rw [ren_is h]
  exact (Lease.ren_other h (hw x hx h0)).2
theorem ren_ok {s : Sp} {c : Int} (hl : Lease.rightB s.leases = true) (hc : 0 ≤ c ∧ c ≤ 3) (hn : 0 ≤ s.now ∧ s.now ≤ 9007199254740981) : Lease.renOk c s.now s.leases = true :=
  Lease.renOk_iff.2 ⟨hl, hc.1, by omega, hn.1, hn.2⟩
/-- What a right edit's numbers are. -/
structure EdOk (e : Ed) : Prop where
  kind : 1 ≤ e.kind ∧ e.kind ≤ 10
  path : e.path.size ≤ 120
  dst : e.dst.size ≤ 120
  none : e.kind ≠ 4 → e.dst.size = 0
  lens : e.kind ≠ 5 → e.kind ≠ 6 → e.lens.length = 0
  many : e.lens.length ≤ 8
  client : 0 ≤ e.client ∧ e.client ≤ 3
  call : 0 ≤ e.call ∧ e.call ≤ 9007199254740991
  n : leastE e.kind ≤ e.n ∧ e.n ≤ mostE e.kind
  each : ∀ k ∈ e.lens, 0 ≤ k ∧ k ≤ 9007199254740991
theorem edit_iff (e : Ed) : editB e = true ↔ EdOk e := by
  simp only [editB, inB, lenB, Bool.and_eq_true, Bool.or_eq_true, decide_eq_true_eq, List.all_eq_true]
  constructor
  · rintro ⟨⟨⟨⟨⟨⟨⟨⟨⟨⟨h1, h2⟩, h3⟩, h4⟩, h5⟩, h6⟩, h7⟩, h8⟩, h9⟩, h10⟩, h11⟩
    exact ⟨⟨h1, h2⟩, h3, h4, fun h => by rcases h5 with h5 | h5; exact absurd h5 h; exact h5, fun a b => by rcases h6 with (h6 | h6) | h6; exact absurd h6 a; exact absurd h6 b; exact h6, h7, h8, h9, h10, h11⟩
  · rintro ⟨⟨h1, h2⟩, h3, h4, h5, h6, h7, h8, h9, h10, h11⟩
    refine ⟨⟨⟨⟨⟨⟨⟨⟨⟨⟨h1, h2⟩, h3⟩, h4⟩, ?_⟩, ?_⟩, h7⟩, h8⟩, h9⟩, h10⟩, h11⟩
    · by_cases h : e.kind = 4
      · exact .inl h
      · exact .inr (h5 h)
    · by_cases h : e.kind = 5
      · exact .inl (.inl h)
      · by_cases h' : e.kind = 6
        · exact .inl (.inr h')
        · exact .inr (h6 h h')
theorem fits_iff (x : Nd) : fitsN x = true ↔ splitE (bs x.path) = 0 ∧ -1 ≤ x.quota ∧ -1 ≤ x.writer ∧ (x.dir = true → x.blocks.length = 0 ∧ x.writer = -1 ∧ x.quota ≤ 9007199254740991) ∧
    (x.dir = false → bs x.path ≠ [47] ∧ x.quota = -1 ∧ x.writer < 4 ∧ x.blocks.length ≤ 8 ∧ ∀ b ∈ x.blocks, okBl b = true) := by
  simp only [fitsN, Bool.and_eq_true, decide_eq_true_eq]
  cases hd : x.dir
  · simp [hd, and_assoc]
  · simp [hd, and_assoc]
theorem okBl_iff (b : Bl) : okBl b = true ↔ 1 ≤ b.id ∧ b.id ≤ 9007199254740991 ∧ 1 ≤ b.gen ∧ b.gen ≤ 9007199254740991 ∧ 0 ≤ b.len ∧ b.len ≤ 64 := by
  simp only [okBl, oneB, Bool.and_eq_true, decide_eq_true_eq]
  constructor
  · intro h; omega
  · intro h; omega
theorem zip_length : ∀ (l : List Bl) (m : List Int), (zipLen l m).length = l.length
  | [], m => by cases m <;> rfl
  | b :: t, [] => rfl
  | b :: t, n :: m => by rw [zipLen, List.length_cons, zip_length t m, List.length_cons]
theorem zip_mem : ∀ (l : List Bl) (m : List Int) (b : Bl), b ∈ zipLen l m → ∃ a ∈ l, b.id = a.id ∧ b.gen = a.gen ∧ (b.len = a.len ∨ b.len ∈ m)
  | [], m, b, h => by cases m <;> cases h
  | a :: t, [], b, h => ⟨b, h, rfl, rfl, .inl rfl⟩
  | a :: t, n :: m, b, h => by
    rcases List.mem_cons.1 h with rfl | h
    · exact ⟨a, by simp, rfl, rfl, .inr (by simp)⟩
    · obtain ⟨c, hc, h1, h2, h3⟩ := zip_mem t m b h
      refine ⟨c, List.mem_cons_of_mem _ hc, h1, h2, ?_⟩
      rcases h3 with h3 | h3
      · exact .inl h3
      · exact .inr (List.mem_cons_of_mem _ h3)
theorem zip_ids : ∀ (l : List Bl) (m : List Int), ids (zipLen l m) = ids l
  | [], m => by cases m <;> rfl
  | a :: t, [] => rfl
  | a :: t, n :: m => by
    have := zip_ids t m
    simp only [ids, zipLen, List.map_cons] at this ⊢
    rw [this]
theorem zip_fits {x : Nd} (hf : ∀ b ∈ x.blocks, okBl b = true) {m : List Int} (hm : ∀ n ∈ m, 0 ≤ n ∧ n ≤ 64) : ∀ b ∈ zipLen x.blocks m, okBl b = true := by
  intro b hb
  obtain ⟨a, ha, h1, h2, h3⟩ := zip_mem _ _ b hb
  have := (okBl_iff a).1 (hf a ha)
  rw [okBl_iff, h1, h2]
  rcases h3 with h3 | h3
  · rw [h3]; exact this
  · have := hm _ h3; omega
theorem okP_ids {nb ng nb' ng' : Int} {A B C B' : List Bl} (h : okP nb ng (A ++ (B ++ C))) (hnb : nb ≤ nb') (hng : ng ≤ ng') (hi : ids B' = ids B) (hB : ∀ b ∈ B', b.id < nb' ∧ b.gen < ng') : okP nb' ng' (A ++ (B' ++ C)) := by
  refine ⟨?_, fun b hb => ?_⟩
  · have e : ids (A ++ (B' ++ C)) = ids (A ++ (B ++ C)) := by
      simp only [ids, List.map_append] at hi ⊢
      rw [hi]
    rw [e]; exact h.1
  · rcases List.mem_append.1 hb with hb | hb
    · have := h.2 b (List.mem_append_left _ hb); omega
    · rcases List.mem_append.1 hb with hb | hb
      · exact hB b hb
      · have := h.2 b (List.mem_append_right _ (List.mem_append_right _ hb)); omega
end Go.Proofs.YtdfckkadmgmcaaaGreatDoor.Space

/- Edits of spaces, in plain words: what an edit makes of a right space is right, kind by kind. -/
namespace Go.Proofs.YtdfckkadmgmcaaaGreatDoor.Space
open Go.RowKit
open Path (Bs bs mk bs_mk mk_bs tl_bs MaxC splitE splitL parD underL)
open Tree
open Quota (overL overP cntN cntT roomT roomK roomStep dirAt)
set_option linter.unusedSimpArgs false
set_option linter.unusedVariables false
/-- A right space that another one has come to. -/
structure Grown (s t : Sp) : Prop where
  right : RightS t
  nb : s.nb ≤ t.nb
  ng : s.ng ≤ t.ng
  now : s.now ≤ t.now
  txid : t.txid = s.txid
theorem bad_ne {s t : Sp} {E : Int} (hE : E ≠ 0) (h : (bad s E).err = 0) : Grown t (bad s E).s := absurd h hE
theorem at_zero {s : Sp} {p : Bs} {f : Nat → Nd → Res} (h : (atN s p f).err = 0) : splitE p = 0 ∧ ∃ i x, (s.nodes.findIdx? fun x => bs x.path == p) = some i ∧ s.nodes[i]? = some x ∧ bs x.path = p ∧ atN s p f = f i x := by
  by_cases hp : splitE p = 0
  · refine ⟨hp, ?_⟩
    rw [atN, if_neg (by omega)] at h
    cases hi : s.nodes.findIdx? (fun x => bs x.path == p) with
    | none => rw [hi] at h; cases h
    | some i =>
      rw [hi] at h
      cases hx : s.nodes[i]? with
      | none => simp only [hx] at h; cases h
      | some x =>
        refine ⟨i, x, rfl, hx, ?_, ?_⟩
        · obtain ⟨hlt, h1, -⟩ := List.findIdx?_eq_some_iff_getElem.1 hi
          rw [List.getElem?_eq_getElem hlt] at hx
          cases hx
          simpa using h1
        · rw [atN, if_neg (by omega), hi]; simp only [hx]
  · rw [atN, if_pos hp] at h; cases h
theorem file_zero {s : Sp} {p : Bs} {f : Nat → Nd → Res} (h : (fileN s p f).err = 0) : splitE p = 0 ∧ ∃ i x, (s.nodes.findIdx? fun x => bs x.path == p) = some i ∧ s.nodes[i]? = some x ∧ bs x.path = p ∧ x.dir = false ∧ fileN s p f = f i x := by
  obtain ⟨h1, i, x, h2, h3, h4, h5⟩ := at_zero h
  refine ⟨h1, i, x, h2, h3, h4, ?_⟩
  have h6 : (if x.dir = true then bad s 7 else f i x).err = 0 := by rw [← h5]; exact h
  cases hd : x.dir
  · refine ⟨rfl, ?_⟩
    show atN s p _ = _
    rw [h5, hd]; rfl
  · rw [hd] at h6; cases h6
theorem right_map {l : List Nd} (h : RightP l) : RightP (l.map pur) := right_p (by rw [right_pur]; exact p_right h)
theorem pur_of {l : List Nd} {x : Nd} (hx : x ∈ l.map pur) : ∃ y ∈ l, x = pur y := by
  obtain ⟨y, hy, rfl⟩ := List.mem_map.1 hx
  exact ⟨y, hy, rfl⟩
/-- Nodes of which the rest is as it was. -/
theorem nodes_right {s : Sp} (hs : RightS s) {m : List Nd} (h1 : RightP m) (h2 : Kept m) (h3 : okW s.leases m) (h4 : okP s.nb s.ng (allB m)) : RightS { s with nodes := m } := ⟨hs.nums, h1, hs.lease, h2, h3, h4⟩
/-- A lease renewed. -/
theorem renew_right {s : Sp} {c : Int} (hc : 0 ≤ c ∧ c ≤ 3) {m : List Nd} (hs : RightS s) (h1 : RightP m) (h2 : Kept m) (h3 : ∀ x ∈ m, 0 ≤ x.writer → x.writer = c ∨ Lease.untilB x.writer s.leases = true) (h4 : okP s.nb s.ng (allB m)) {now : Int} (hn : s.now ≤ now ∧ now ≤ 9007199254740981) :
    RightS { s with nodes := m, now := now, leases := Lease.renR c now s.leases } := by
  have hk : Lease.renOk c now s.leases = true := Lease.renOk_iff.2 ⟨hs.lease, hc.1, by omega, by have := hs.nums; omega, hn.2⟩
  refine ⟨by have := hs.nums; show 0 ≤ s.txid ∧ s.txid ≤ 300 ∧ 1 ≤ s.nb ∧ s.nb ≤ 9007199254740991 ∧ 1 ≤ s.ng ∧ s.ng ≤ 9007199254740991 ∧ 0 ≤ now ∧ now ≤ 9007199254740981; omega, h1, ?_, h2, ?_, h4⟩
  · show Lease.rightB (Lease.renR c now s.leases) = true
    rw [ren_is hk]; exact Lease.ren_right hk
  · intro x hx h0
    show Lease.untilB x.writer (Lease.renR c now s.leases) = true
    rw [ren_is hk]
    rcases h3 x hx h0 with e | e
    · rw [e]; exact (Lease.ren_until hk).2
    · exact (Lease.ren_other hk e).2
theorem made_right {s : Sp} {e : Ed} (hs : RightS s) (he : EdOk e) (hk : e.kind = 1 ∨ e.kind = 2) (h : (doE s e).err = 0) : Grown s (doE s e).s := by
  rw [doE, if_pos hk] at h ⊢
  by_cases hE : addE s.nodes (newN e) = 0
  · rw [if_neg (by omega)] at h ⊢
    by_cases hr : roomT s.nodes (parD (bs e.path)) < 1
    · rw [if_pos hr] at h; cases h
    · rw [if_neg hr] at h ⊢
      have h1 : RightP (addL s.nodes (newN e)) := right_map (add_right hE)
      have h2 : Kept (addL s.nodes (newN e)) := (kept_pur _).2 (kept_ins hs.kept hE hr (show (-1 : Int) < 0 by omega))
      have h4 : okP s.nb s.ng (allB (addL s.nodes (newN e))) := by
        rw [addL, allB_pur]; exact okP_perm (allB_ins _ _).symm hs.bl
      have hw : ∀ x ∈ addL s.nodes (newN e), x.writer = (newN e).writer ∨ ∃ y ∈ s.nodes, x.writer = y.writer := fun x hx => by
        obtain ⟨y, hy, rfl⟩ := pur_of hx
        rcases List.mem_cons.1 ((ins_perm _ _).mem_iff.1 hy) with rfl | hy
        · exact .inl rfl
        · exact .inr ⟨y, hy, rfl⟩
      by_cases h1' : e.kind = 1
      · rw [if_pos h1']
        refine ⟨nodes_right hs h1 h2 (fun x hx h0 => ?_) h4, Int.le_refl _, Int.le_refl _, Int.le_refl _, rfl⟩
        rcases hw x hx with e1 | ⟨y, hy, e1⟩
        · have : (newN e).writer = -1 := by simp [newN, h1']
          omega
        · rw [e1]; exact hs.wr y hy (by omega)
      · rw [if_neg h1']
        refine ⟨renew_right he.client hs h1 h2 (fun x hx h0 => ?_) h4 ⟨Int.le_refl _, hs.nums.2.2.2.2.2.2.2⟩, Int.le_refl _, Int.le_refl _, Int.le_refl _, rfl⟩
        rcases hw x hx with e1 | ⟨y, hy, e1⟩
        · exact .inl (by rw [e1]; simp [newN, h1'])
        · exact .inr (by rw [e1]; exact hs.wr y hy (by omega))
  · rw [if_pos hE] at h; exact absurd h hE
theorem gone_right {s : Sp} {p : Bs} (hs : RightS s) (h : rmE s.nodes p = 0) : RightS { s with nodes := rmL s.nodes p } := by
  refine nodes_right hs (right_map (rem_right h)) ((kept_pur _).2 (kept_filter hs.kept _)) (fun x hx h0 => ?_) ?_
  · obtain ⟨y, hy, rfl⟩ := pur_of hx
    exact hs.wr y (List.mem_filter.1 hy).1 h0
  · rw [rmL, allB_pur]; exact okP_sub (allB_filter _ _) hs.bl
theorem moved_right {s : Sp} {a b : Bs} (hs : RightS s) (h : mvE s.nodes a b = 0) (ho : (overL (mvL s.nodes a b)).length = 0) : RightS { s with nodes := mvL s.nodes a b } := by
  have h1 : RightP (mvL s.nodes a b) := right_map (mv_right h)
  refine nodes_right hs h1 ((over_iff (p_right h1)).1 ho) (fun x hx h0 => ?_) ?_
  · obtain ⟨y, hy, rfl⟩ := pur_of hx
    obtain ⟨z, hz, -, rfl⟩ := mem_mvD.1 (mem_sortd.1 hy)
    have e : (pur (mvN a b z)).writer = z.writer := by show (mvN a b z).writer = _; rw [mvN]; split <;> rfl
    rw [e] at h0 ⊢
    exact hs.wr z hz h0
  · obtain ⟨C, h2, h3⟩ := allB_mv s.nodes a b
    exact okP_perm h3 (okP_sub h2 hs.bl)
theorem set_right {s : Sp} {i : Nat} {x y : Nd} (hs : RightS s) (hx : s.nodes[i]? = some x) (hp : y.path = x.path) (hd : y.dir = x.dir) (hf : fitsN y = true)
    (hq : y.dir = true → 0 ≤ y.quota → (cntN s.nodes (bs x.path) : Int) ≤ y.quota) (hw : 0 ≤ y.writer → Lease.untilB y.writer s.leases = true) {nb ng : Int} (hnb : s.nb ≤ nb ∧ nb ≤ 9007199254740991) (hng : s.ng ≤ ng ∧ ng ≤ 9007199254740991)
    (hb : okP nb ng (allB (s.nodes.set i y))) : Grown s { setN s i y with nb := nb, ng := ng } :=
  ⟨⟨by have := hs.nums; show 0 ≤ s.txid ∧ s.txid ≤ 300 ∧ 1 ≤ nb ∧ nb ≤ 9007199254740991 ∧ 1 ≤ ng ∧ ng ≤ 9007199254740991 ∧ 0 ≤ s.now ∧ s.now ≤ 9007199254740981; omega,
    Space.right_set hs.tree hx hp hd hf, hs.lease, kept_set hs.kept hx hp hd hq, okW_set hs.wr hw, hb⟩, hnb.1, hng.1, Int.le_refl _, rfl⟩
theorem same_blocks {s : Sp} {i : Nat} {x y : Nd} (hs : RightS s) (hx : s.nodes[i]? = some x) (hb : y.blocks = x.blocks) : okP s.nb s.ng (allB (s.nodes.set i y)) := by
  rw [allB_set hx, hb, ← allB_at hx]; exact hs.bl
theorem quota_right {s : Sp} {e : Ed} (hs : RightS s) (he : EdOk e) (hk : e.kind = 7) (h : (doE s e).err = 0) : Grown s (doE s e).s := by
  have e0 : doE s e = atN s (bs e.path) fun i x => if x.dir = false then bad s 7 else if 0 ≤ e.n ∧ e.n < cntT s.nodes (bs e.path) then bad s 8 else ⟨0, setN s i { x with quota := e.n }, noBl⟩ := by
    rw [doE, if_neg (by omega), if_neg (by omega), if_neg (by omega), if_pos hk]
  rw [e0] at h ⊢
  obtain ⟨h1, i, x, h2, h3, h4, h5⟩ := at_zero h
  rw [h5] at h ⊢
  rcases Bool.eq_false_or_eq_true x.dir with hd | hd
  case inr => rw [if_pos hd] at h; cases h
  case inl =>
    rw [if_neg (by simp [hd])] at h ⊢
    by_cases hn : 0 ≤ e.n ∧ e.n < cntT s.nodes (bs e.path)
    · rw [if_pos hn] at h; cases h
    · rw [if_neg hn]
      obtain ⟨f1, f2, f3, f4, -⟩ := (fits_iff x).1 (hs.tree.fits x (List.mem_of_getElem? h3))
      have hne : -1 ≤ e.n ∧ e.n ≤ 9007199254740991 := by have := he.n; simpa [leastE, mostE, hk] using this
      refine set_right hs h3 (y := { x with quota := e.n }) rfl rfl ((fits_iff _).2 ⟨f1, hne.1, f3, fun _ => ⟨(f4 hd).1, (f4 hd).2.1, hne.2⟩, fun hf => (by rw [show x.dir = false from hf] at hd; cases hd)⟩) (fun _ h0 => ?_) (fun h0 => hs.wr x (List.mem_of_getElem? h3) h0) ⟨Int.le_refl _, hs.nums.2.2.2.1⟩ ⟨Int.le_refl _, hs.nums.2.2.2.2.2.1⟩ (same_blocks hs h3 rfl)
      rw [cntT, if_pos (p_right hs.tree), ← h4] at hn
      show (cntN s.nodes (bs x.path) : Int) ≤ e.n
      have h0' : 0 ≤ e.n := h0
      omega
theorem reopen_right {s : Sp} {e : Ed} (hs : RightS s) (he : EdOk e) (hk : e.kind = 10) (h : (doE s e).err = 0) : Grown s (doE s e).s := by
  have e0 : doE s e = fileN s (bs e.path) fun i x => if 0 ≤ x.writer then bad s 9 else ⟨0, renS (setN s i { x with writer := e.client }) e.client, noBl⟩ := by
    rw [doE, if_neg (by omega), if_neg (by omega), if_neg (by omega), if_neg (by omega), if_neg (by omega), if_pos hk]
  rw [e0] at h ⊢
  obtain ⟨h1, i, x, h2, h3, h4, hd, h5⟩ := file_zero h
  rw [h5] at h ⊢
  by_cases hw : 0 ≤ x.writer
  · rw [if_pos hw] at h; cases h
  · rw [if_neg hw]
    obtain ⟨f1, f2, f3, -, f5⟩ := (fits_iff x).1 (hs.tree.fits x (List.mem_of_getElem? h3))
    obtain ⟨g1, g2, g3, g4, g5⟩ := f5 hd
    have hc := he.client
    have hf : fitsN { x with writer := e.client } = true := (fits_iff _).2 ⟨f1, f2, show -1 ≤ e.client by omega, fun hf => (by rw [show x.dir = true from hf] at hd; cases hd), fun _ => ⟨g1, g2, show e.client < 4 by omega, g4, g5⟩⟩
    refine ⟨renew_right he.client hs (Space.right_set hs.tree h3 (y := { x with writer := e.client }) rfl rfl hf) (kept_set hs.kept h3 rfl rfl fun hf => by rw [show x.dir = true from hf] at hd; cases hd) (fun z hz h0 => ?_) (same_blocks hs h3 rfl) ⟨Int.le_refl _, hs.nums.2.2.2.2.2.2.2⟩, Int.le_refl _, Int.le_refl _, Int.le_refl _, rfl⟩
    rcases List.mem_or_eq_of_mem_set hz with hz | rfl
    · exact .inr (hs.wr z hz h0)
    · exact .inl rfl
theorem write_right {s : Sp} {e : Ed} (hs : RightS s) (he : EdOk e) {i : Nat} {x : Nd} (hx : s.nodes[i]? = some x) (hd : x.dir = false) (hw : x.writer = e.client) (h : (doWrite s e i x).err = 0) : Grown s (doWrite s e i x).s := by
  obtain ⟨f1, f2, f3, -, f5⟩ := (fits_iff x).1 (hs.tree.fits x (List.mem_of_getElem? hx))
  obtain ⟨g1, g2, g3, g4, g5⟩ := f5 hd
  have hn := hs.nums
  have hwr := hs.wr x (List.mem_of_getElem? hx)
  have hbl := hs.bl
  rw [allB_at hx] at hbl
  have hbx : ∀ b ∈ x.blocks, b.id < s.nb ∧ b.gen < s.ng := fun b hb => hbl.2 b (List.mem_append_right _ (List.mem_append_left _ hb))
  have nodir : ∀ {P : Prop}, x.dir = true → P := fun h => by rw [hd] at h; cases h
  rw [doWrite] at h ⊢
  by_cases hk : e.kind = 9
  · rw [if_pos hk] at h ⊢
    by_cases h1 : (x.blocks.length : Int) ≤ e.n
    · rw [if_pos h1] at h; cases h
    · rw [if_neg h1] at h ⊢
      by_cases h2 : s.ng = 9007199254740991
      · rw [if_pos h2] at h; cases h
      · rw [if_neg h2] at h ⊢
        cases hb : x.blocks[e.n.toNat]? with
        | none => rw [hb] at h; cases h
        | some b =>
          have hbm := List.mem_of_getElem? hb
          have hb1 := (okBl_iff b).1 (g5 b hbm)
          have hbb : ∀ c ∈ x.blocks.set e.n.toNat { b with gen := s.ng }, okBl c = true ∧ c.id < s.nb ∧ c.gen < s.ng + 1 := fun c hc => by
            rcases List.mem_or_eq_of_mem_set hc with hc | rfl
            · exact ⟨g5 c hc, (hbx c hc).1, by have := (hbx c hc).2; omega⟩
            · exact ⟨(okBl_iff _).2 ⟨hb1.1, hb1.2.1, by show 1 ≤ s.ng; omega, by show s.ng ≤ _; omega, hb1.2.2.2.2.1, hb1.2.2.2.2.2⟩, (hbx b hbm).1, by show s.ng < s.ng + 1; omega⟩
          refine set_right hs hx (y := { x with blocks := x.blocks.set e.n.toNat { b with gen := s.ng } }) rfl rfl ((fits_iff _).2 ⟨f1, f2, f3, fun h => nodir h, fun _ => ⟨g1, g2, g3, by show (x.blocks.set _ _).length ≤ 8; rw [List.length_set]; exact g4, fun c hc => (hbb c hc).1⟩⟩) (fun h => nodir h) hwr ⟨Int.le_refl _, show s.nb ≤ 9007199254740991 by omega⟩ ⟨by omega, by omega⟩ ?_
          rw [allB_set hx]
          refine okP_ids hbl (Int.le_refl _) (by omega) ?_ fun c hc => (hbb c hc).2
          rw [ids, ids, List.map_set]
          exact Lease.set_same (by rw [List.getElem?_map, hb]; rfl)
  · rw [if_neg hk] at h ⊢
    cases hl : lensOk e x with
    | false => rw [if_pos hl] at h; cases h
    | true =>
      rw [if_neg (by simp [hl])] at h ⊢
      simp only [lensOk, Bool.and_eq_true, Bool.not_eq_true', decide_eq_true_eq, List.any_eq_false] at hl
      have hz := zip_fits g5 (m := e.lens) fun n hn => ⟨(he.each n hn).1, by have := hl.2 n hn; omega⟩
      have hzb : ∀ b ∈ zipLen x.blocks e.lens, b.id < s.nb ∧ b.gen < s.ng := fun b hb => by
        obtain ⟨a, ha, h1, h2, -⟩ := zip_mem _ _ b hb
        rw [h1, h2]; exact hbx a ha
      by_cases hk6 : e.kind = 6
      · rw [if_pos hk6]
        refine set_right hs hx (y := { x with blocks := zipLen x.blocks e.lens, writer := -1 }) rfl rfl ((fits_iff _).2 ⟨f1, f2, by show (-1 : Int) ≤ -1; omega, fun h => nodir h, fun _ => ⟨g1, g2, by show (-1 : Int) < 4; omega, by show (zipLen _ _).length ≤ 8; rw [zip_length]; exact g4, hz⟩⟩) (fun h => nodir h) (fun h0 => absurd (show (0 : Int) ≤ -1 from h0) (by omega)) ⟨Int.le_refl _, hn.2.2.2.1⟩ ⟨Int.le_refl _, hn.2.2.2.2.2.1⟩ ?_
        rw [allB_set hx]
        exact okP_ids hbl (Int.le_refl _) (Int.le_refl _) (zip_ids _ _) hzb
      · rw [if_neg hk6] at h ⊢
        by_cases hm : 8 ≤ x.blocks.length ∨ s.nb = 9007199254740991 ∨ s.ng = 9007199254740991
        · rw [if_pos hm] at h; cases h
        · rw [if_neg hm]
          have hnew : okBl ⟨s.nb, s.ng, 0⟩ = true := (okBl_iff _).2 ⟨by show 1 ≤ s.nb; omega, by show s.nb ≤ _; omega, by show 1 ≤ s.ng; omega, by show s.ng ≤ _; omega, by show (0 : Int) ≤ 0; omega, by show (0 : Int) ≤ 64; omega⟩
          refine set_right hs hx (y := { x with blocks := zipLen x.blocks e.lens ++ [⟨s.nb, s.ng, 0⟩] }) rfl rfl ((fits_iff _).2 ⟨f1, f2, f3, fun h => nodir h, fun _ => ⟨g1, g2, g3, by show (zipLen _ _ ++ [_]).length ≤ 8; rw [List.length_append, zip_length]; simp; omega, fun c hc => ?_⟩⟩) (fun h => nodir h) hwr ⟨by omega, by omega⟩ ⟨by omega, by omega⟩ ?_
          · rcases List.mem_append.1 hc with hc | hc
            · exact hz c hc
            · rw [List.mem_singleton] at hc; subst hc; exact hnew
          · rw [allB_set hx]
            have hp : (allB (s.nodes.take i) ++ (zipLen x.blocks e.lens ++ allB (s.nodes.drop (i + 1))) ++ [(⟨s.nb, s.ng, 0⟩ : Bl)]).Perm (allB (s.nodes.take i) ++ (zipLen x.blocks e.lens ++ [(⟨s.nb, s.ng, 0⟩ : Bl)] ++ allB (s.nodes.drop (i + 1)))) := by
              simp only [List.append_assoc]
              exact List.Perm.append_left _ (List.Perm.append_left _ List.perm_append_comm)
            refine okP_perm hp (ok_snoc.2 ⟨okP_ids hbl (by omega) (by omega) (zip_ids _ _) fun b hb => by have := hzb b hb; omega, ?_, by show s.nb < s.nb + 1; omega, by show s.ng < s.ng + 1; omega⟩)
            intro hin
            obtain ⟨c, hc, hce⟩ := List.mem_map.1 hin
            have hlt : c.id < s.nb := by
              rcases List.mem_append.1 hc with hc | hc
              · exact (hbl.2 c (List.mem_append_left _ hc)).1
              · rcases List.mem_append.1 hc with hc | hc
                · exact (hzb c hc).1
                · exact (hbl.2 c (List.mem_append_right _ (List.mem_append_right _ hc))).1
            have : c.id = s.nb := hce
            omega
theorem do_right {s : Sp} {e : Ed} (hs : RightS s) (he : EdOk e) (h : (doE s e).err = 0) : Grown s (doE s e).s := by
  by_cases h1 : e.kind = 1 ∨ e.kind = 2
  · exact made_right hs he h1 h
  by_cases h3 : e.kind = 3
  · have e0 : doE s e = if rmE s.nodes (bs e.path) ≠ 0 then bad s (rmE s.nodes (bs e.path)) else ⟨0, { s with nodes := rmL s.nodes (bs e.path) }, noBl⟩ := by rw [doE, if_neg h1, if_pos h3]
    rw [e0] at h ⊢
    by_cases hE : rmE s.nodes (bs e.path) = 0
    · rw [if_neg (by omega)]
      exact ⟨gone_right hs hE, Int.le_refl _, Int.le_refl _, Int.le_refl _, rfl⟩
    · rw [if_pos hE] at h; exact absurd h hE
  by_cases h4 : e.kind = 4
  · have e0 : doE s e = if mvE s.nodes (bs e.path) (bs e.dst) ≠ 0 then bad s (mvE s.nodes (bs e.path) (bs e.dst)) else if 0 < (overL (mvL s.nodes (bs e.path) (bs e.dst))).length then bad s 8 else ⟨0, { s with nodes := mvL s.nodes (bs e.path) (bs e.dst) }, noBl⟩ := by rw [doE, if_neg h1, if_neg h3, if_pos h4]
    rw [e0] at h ⊢
    by_cases hE : mvE s.nodes (bs e.path) (bs e.dst) = 0
    · rw [if_neg (by omega)] at h ⊢
      by_cases ho : 0 < (overL (mvL s.nodes (bs e.path) (bs e.dst))).length
      · rw [if_pos ho] at h; cases h
      · rw [if_neg ho]
        exact ⟨moved_right hs hE (by omega), Int.le_refl _, Int.le_refl _, Int.le_refl _, rfl⟩
    · rw [if_pos hE] at h; exact absurd h hE
  by_cases h7 : e.kind = 7
  · exact quota_right hs he h7 h
  by_cases h8 : e.kind = 8
  · have e0 : doE s e = if e.n < s.now ∨ 9007199254740981 < e.n then bad s 1 else ⟨0, renS { s with now := e.n } e.client, noBl⟩ := by rw [doE, if_neg h1, if_neg h3, if_neg h4, if_neg h7, if_pos h8]
    rw [e0] at h ⊢
    by_cases hn : e.n < s.now ∨ 9007199254740981 < e.n
    · rw [if_pos hn] at h; cases h
    · rw [if_neg hn]
      exact ⟨renew_right he.client hs hs.tree hs.kept (fun x hx h0 => .inr (hs.wr x hx h0)) hs.bl ⟨show s.now ≤ e.n by omega, show e.n ≤ 9007199254740981 by omega⟩, Int.le_refl _, Int.le_refl _, by show s.now ≤ e.n; omega, rfl⟩
  by_cases h10 : e.kind = 10
  · exact reopen_right hs he h10 h
  have e0 : doE s e = fileN s (bs e.path) fun i x => if x.writer ≠ e.client then bad s 9 else doWrite s e i x := by rw [doE, if_neg h1, if_neg h3, if_neg h4, if_neg h7, if_neg h8, if_neg h10]
  rw [e0] at h ⊢
  obtain ⟨g1, i, x, g2, g3, g4, hd, g5⟩ := file_zero h
  rw [g5] at h ⊢
  by_cases hw : x.writer = e.client
  · rw [if_neg (by omega)] at h ⊢
    exact write_right hs he g3 hd hw h
  · rw [if_pos hw] at h; cases h
/-- What Apply makes of a space, when it makes it. -/
theorem apply_ok {s : Sp} {e : Ed} (h : (applyE s e).err = 0) : RightS s ∧ EdOk e ∧ s.txid < 300 ∧ (doE s e).err = 0 ∧ (applyE s e).s = { (doE s e).s with txid := s.txid + 1 } := by
  rw [applyE] at h ⊢
  by_cases h1 : spaceB s = false ∨ editB e = false
  · rw [if_pos h1] at h; cases h
  · rw [if_neg h1] at h ⊢
    have hs : spaceB s = true := by cases hh : spaceB s; exact absurd (.inl hh) h1; rfl
    have he : editB e = true := by cases hh : editB e; exact absurd (.inr hh) h1; rfl
    by_cases h2 : s.txid = 300
    · rw [if_pos h2] at h; cases h
    · rw [if_neg h2] at h ⊢
      have hR := (right_iff s).1 hs
      have := hR.nums
      by_cases h3 : (doE s e).err = 0
      · rw [if_neg (by omega)]
        exact ⟨hR, (edit_iff e).1 he, by omega, h3, rfl⟩
      · rw [if_pos h3] at h; exact absurd h h3
theorem apply_right {s : Sp} {e : Ed} (h : (applyE s e).err = 0) : RightS (applyE s e).s ∧ (applyE s e).s.txid = s.txid + 1 ∧ s.nb ≤ (applyE s e).s.nb ∧ s.ng ≤ (applyE s e).s.ng ∧ s.now ≤ (applyE s e).s.now := by
  obtain ⟨hs, he, ht, h3, h4⟩ := apply_ok h
  have g := do_right hs he h3
  rw [h4]
  refine ⟨⟨?_, g.right.tree, g.right.lease, g.right.kept, g.right.wr, g.right.bl⟩, rfl, g.nb, g.ng, g.now⟩
  have := g.right.nums
  have := hs.nums
  show 0 ≤ s.txid + 1 ∧ s.txid + 1 ≤ 300 ∧ _
  exact ⟨by omega, by omega, g.right.nums.2.2⟩
end Go.Proofs.YtdfckkadmgmcaaaGreatDoor.Space

/- Spaces that are the same but for the places of their rows: what an edit makes of them is the same. -/
namespace Go.Proofs.YtdfckkadmgmcaaaGreatDoor.Tree
open Go.RowKit
open Path (Bs bs mk bs_mk mk_bs tl_bs splitE splitL MaxC parD parE parN)
set_option linter.unusedSimpArgs false
theorem len_same {q m : List Nd} (e : q.map pur = m.map pur) : q.length = m.length := by have := congrArg List.length e; rwa [List.length_map, List.length_map] at this
theorem ins_same' {q m : List Nd} (e : q.map pur = m.map pur) (n : Nd) : (ins n q).map pur = (ins n m).map pur := by rw [ins_pur, e, ← ins_pur]
theorem addE_same {q m : List Nd} (e : q.map pur = m.map pur) (n : Nd) : addE q n = addE m n := by
  rw [addE, addE, right_same e, isSome_same e, dirE_keys, dirE_keys, keys_same e, len_same e]
theorem addL_same {q m : List Nd} (e : q.map pur = m.map pur) (n : Nd) : addL q n = addL m n := ins_same' e n
theorem pur_same {x y : Nd} (h : pur x = pur y) : x.path = y.path ∧ x.dir = y.dir ∧ x.quota = y.quota ∧ x.blocks = y.blocks ∧ x.writer = y.writer := by
  cases x; cases y
  simp only [pur, Nd.mk.injEq] at h
  exact ⟨h.1, h.2.1, h.2.2.1, h.2.2.2.1, h.2.2.2.2.2⟩
theorem pur_eq {x y : Nd} (h1 : x.path = y.path) (h2 : x.dir = y.dir) (h3 : x.quota = y.quota) (h4 : x.blocks = y.blocks) (h5 : x.writer = y.writer) : pur x = pur y := by
  simp only [pur, h1, h2, h3, h4, h5]
theorem clash_same {q m : List Nd} (e : q.map pur = m.map pur) (b : Bs) {x y : Nd} (hxy : x.dir = y.dir) : clash q b x = clash m b y := by
  have key : ∀ l : List Nd, ∀ z : Nd, clash l b z = match (keys l).find? (fun y => y.1 == b) with
      | none => false
      | some k => z.dir || k.2 := fun l z => by
    rw [clash, keys, List.find?_map]
    have e : ((fun y : Bs × Bool => y.1 == b) ∘ fun x : Nd => (bs x.path, x.dir)) = fun y => bs y.path == b := rfl
    rw [e]
    cases l.find? (fun y => bs y.path == b) <;> rfl
  rw [key, key, keys_same e, hxy]
theorem bad_same {q m : List Nd} (e : q.map pur = m.map pur) (a b : Bs) : q.any (mvBad a b) = m.any (mvBad a b) := by
  have key : ∀ l : List Nd, l.any (mvBad a b) = (l.map pur).any (mvBad a b) := fun l => by rw [List.any_map]; rfl
  rw [key, e, ← key]
theorem find_map_pur (l : List Nd) (a : Bs) : (l.find? fun x => bs x.path == a).map pur = (l.map pur).find? fun x => bs x.path == a := by
  rw [List.find?_map]; rfl
theorem mvE_all {q m : List Nd} (e : q.map pur = m.map pur) (a b : Bs) : mvE q a b = mvE m a b := by
  have h1 : (q.find? fun x => bs x.path == a).map pur = (m.find? fun x => bs x.path == a).map pur := by rw [find_map_pur, find_map_pur, e]
  rw [mvE, mvE, right_same e]
  cases hq : q.find? (fun x => bs x.path == a) with
  | none =>
    rw [hq] at h1
    cases hm : m.find? (fun x => bs x.path == a) with
    | none => rfl
    | some y => rw [hm] at h1; cases h1
  | some x =>
    rw [hq] at h1
    cases hm : m.find? (fun x => bs x.path == a) with
    | none => rw [hm] at h1; cases h1
    | some y =>
      rw [hm] at h1
      have hxy : pur x = pur y := by simpa using h1
      have hd : dirE q b = dirE m b := by rw [dirE_keys, dirE_keys, keys_same e]
      simp only [hd, clash_same e b (pur_same hxy).2.1, bad_same e]
end Go.Proofs.YtdfckkadmgmcaaaGreatDoor.Tree
namespace Go.Proofs.YtdfckkadmgmcaaaGreatDoor.Quota
open Go.RowKit
open Path (Bs bs)
open Tree
theorem cnt_pur (l : List Nd) (p : Bs) : cntN (l.map pur) p = cntN l p := by rw [cntN, cntN, List.filter_map, List.length_map]; rfl
theorem cnt_same {q m : List Nd} (e : q.map pur = m.map pur) (p : Bs) : cntN q p = cntN m p := by rw [← cnt_pur q, e, cnt_pur]
theorem cntT_same {q m : List Nd} (e : q.map pur = m.map pur) (p : Bs) : cntT q p = cntT m p := by rw [cntT, cntT, right_same e, cnt_same e]
theorem over_pur (l : List Nd) : overL (l.map pur) = overL l := by
  have h : (overP (l.map pur)) ∘ pur = overP l := by
    funext x
    show overP (l.map pur) (pur x) = overP l x
    rw [overP, overP, cnt_pur]; rfl
  rw [overL, overL, right_pur, List.filter_map, List.map_map, h]; rfl
theorem over_same {q m : List Nd} (e : q.map pur = m.map pur) : overL q = overL m := by rw [← over_pur q, e, over_pur]
theorem dirAt_pur (l : List Nd) (p : Bs) : dirAt (l.map pur) p = dirAt l p := by
  rw [dirAt, dirAt, ← find_map_pur]
  cases l.find? (fun x => bs x.path == p) <;> rfl
theorem fold_pur (L : List Nd) (p : Bs) : ∀ (l : List Nd) (n : Int), (l.map pur).foldl (roomStep (L.map pur) p) n = l.foldl (roomStep L p) n
  | [], n => rfl
  | x :: t, n => by
    rw [List.map_cons, List.foldl_cons, List.foldl_cons, fold_pur L p t]
    congr 1
    rw [roomStep, roomStep, cnt_pur]; rfl
theorem room_pur (l : List Nd) (p : Bs) : roomT (l.map pur) p = roomT l p := by
  rw [roomT, roomT, right_pur, dirAt_pur, roomK, roomK, List.length_map, ← List.map_take, fold_pur]
theorem room_same {q m : List Nd} (e : q.map pur = m.map pur) (p : Bs) : roomT q p = roomT m p := by rw [← room_pur q, e, room_pur]
end Go.Proofs.YtdfckkadmgmcaaaGreatDoor.Quota
namespace Go.Proofs.YtdfckkadmgmcaaaGreatDoor.Space
open Go.RowKit
open Path (Bs bs mk bs_mk mk_bs tl_bs MaxC splitE splitL parD underL)
open Tree
open Quota (overL overP cntN cntT roomT roomK roomStep dirAt)
set_option linter.unusedSimpArgs false
set_option linter.unusedVariables false
/-- Two spaces that are the same but for where their rows lie. -/
structure SameS (a b : Sp) : Prop where
  txid : a.txid = b.txid
  nb : a.nb = b.nb
  ng : a.ng = b.ng
  now : a.now = b.now
  nodes : a.nodes.map pur = b.nodes.map pur
  leases : a.leases = b.leases
theorem SameS.refl (s : Sp) : SameS s s := ⟨rfl, rfl, rfl, rfl, rfl, rfl⟩
theorem SameS.symm {a b : Sp} (h : SameS a b) : SameS b a := ⟨h.txid.symm, h.nb.symm, h.ng.symm, h.now.symm, h.nodes.symm, h.leases.symm⟩
theorem SameS.trans {a b c : Sp} (h : SameS a b) (k : SameS b c) : SameS a c := ⟨h.txid.trans k.txid, h.nb.trans k.nb, h.ng.trans k.ng, h.now.trans k.now, h.nodes.trans k.nodes, h.leases.trans k.leases⟩
theorem okW_pur {ls : List Lease.Le} {l : List Nd} : okW ls (l.map pur) ↔ okW ls l := by
  constructor
  · intro h x hx; exact h (pur x) (List.mem_map_of_mem hx)
  · intro h x hx
    obtain ⟨y, hy, rfl⟩ := List.mem_map.1 hx
    exact h y hy
theorem allB_same {q m : List Nd} (e : q.map pur = m.map pur) : allB q = allB m := by rw [← allB_pur q, e, allB_pur]
theorem space_same {a b : Sp} (h : SameS a b) : spaceB a = spaceB b := by
  obtain ⟨h1, h2, h3, h4, h5, h6⟩ := h
  have hw : okW a.leases a.nodes ↔ okW b.leases b.nodes := by rw [← okW_pur, h5, okW_pur, h6]
  rw [spaceB, spaceB, numsB, numsB, partsB, partsB, restB, restB, h1, h2, h3, h4, right_same h5, Quota.over_same h5, decide_eq_decide.2 hw, h6, allB_same h5]
theorem right_sameS {a b : Sp} (h : SameS a b) (hr : RightS a) : RightS b := (right_iff b).1 ((space_same h).symm.trans ((right_iff a).2 hr))
structure SameR (p q : Res) : Prop where
  err : p.err = q.err
  s : SameS p.s q.s
  b : p.b = q.b
theorem SameR.bad {a b : Sp} (h : SameS a b) (e : Int) : SameR (Space.bad a e) (Space.bad b e) := ⟨rfl, h, rfl⟩
theorem SameS.nodes' {a b : Sp} (h : SameS a b) {l m : List Nd} (e : l.map pur = m.map pur) : SameS { a with nodes := l } { b with nodes := m } := ⟨h.txid, h.nb, h.ng, h.now, e, h.leases⟩
theorem SameS.ren {a b : Sp} (h : SameS a b) (c : Int) : SameS (renS a c) (renS b c) := ⟨h.txid, h.nb, h.ng, h.now, h.nodes, by rw [renS, renS, h.now, h.leases]⟩
theorem SameS.set {a b : Sp} (h : SameS a b) (i : Nat) {x y : Nd} (e : pur x = pur y) : SameS (setN a i x) (setN b i y) := ⟨h.txid, h.nb, h.ng, h.now, by
  show (a.nodes.set i x).map pur = (b.nodes.set i y).map pur
  rw [List.map_set, List.map_set, h.nodes, e], h.leases⟩
theorem idx_pur (l : List Nd) (p : Bs) : (l.map pur).findIdx? (fun x => bs x.path == p) = l.findIdx? fun x => bs x.path == p := by
  rw [List.findIdx?_map]; rfl
theorem at_same {a b : Sp} (h : SameS a b) (p : Bs) {f g : Nat → Nd → Res} (hf : ∀ i x y, a.nodes[i]? = some x → b.nodes[i]? = some y → pur x = pur y → SameR (f i x) (g i y)) : SameR (atN a p f) (atN b p g) := by
  rw [atN, atN]
  by_cases hp : splitE p = 0
  · rw [if_neg (by omega), if_neg (by omega), ← idx_pur a.nodes, h.nodes, idx_pur]
    cases hi : b.nodes.findIdx? (fun x => bs x.path == p) with
    | none => exact .bad h 5
    | some i =>
      have e : (a.nodes.map pur)[i]? = (b.nodes.map pur)[i]? := by rw [h.nodes]
      rw [List.getElem?_map, List.getElem?_map] at e
      cases hx : a.nodes[i]? with
      | none =>
        rw [hx] at e
        cases hy : b.nodes[i]? with
        | none => simp only [hx, hy]; exact .bad h 5
        | some y => rw [hy] at e; cases e
      | some x =>
        rw [hx] at e
        cases hy : b.nodes[i]? with
        | none => rw [hy] at e; cases e
        | some y =>
          rw [hy] at e
          simp only [hx, hy]
          exact hf i x y hx hy (by simpa using e)
  · rw [if_pos hp, if_pos hp]; exact .bad h 1
theorem file_same {a b : Sp} (h : SameS a b) (p : Bs) {f g : Nat → Nd → Res} (hf : ∀ i x y, a.nodes[i]? = some x → b.nodes[i]? = some y → pur x = pur y → SameR (f i x) (g i y)) : SameR (fileN a p f) (fileN b p g) := by
  rw [fileN, fileN]
  refine at_same h p fun i x y hx hy e => ?_
  rw [(pur_same e).2.1]
  by_cases hd : y.dir = true
  · rw [if_pos hd, if_pos hd]; exact .bad h 7
  · rw [if_neg hd, if_neg hd]; exact hf i x y hx hy e
theorem write_same {a b : Sp} (h : SameS a b) (e : Ed) (i : Nat) {x y : Nd} (exy : pur x = pur y) : SameR (doWrite a e i x) (doWrite b e i y) := by
  obtain ⟨e1, e2, e3, e4, e5⟩ := pur_same exy
  rw [doWrite, doWrite]
  by_cases hk : e.kind = 9
  · rw [if_pos hk, if_pos hk, e4, h.ng]
    by_cases h1 : (y.blocks.length : Int) ≤ e.n
    · rw [if_pos h1, if_pos h1]; exact .bad h 1
    · rw [if_neg h1, if_neg h1]
      by_cases h2 : b.ng = 9007199254740991
      · rw [if_pos h2, if_pos h2]; exact .bad h 4
      · rw [if_neg h2, if_neg h2]
        cases hb : y.blocks[e.n.toNat]? with
        | none => exact .bad h 1
        | some c =>
          refine ⟨rfl, ?_, rfl⟩
          have := h.set i (x := { x with blocks := y.blocks.set e.n.toNat { c with gen := b.ng } }) (y := { y with blocks := y.blocks.set e.n.toNat { c with gen := b.ng } }) (pur_eq e1 e2 e3 rfl e5)
          exact ⟨this.txid, this.nb, rfl, this.now, this.nodes, this.leases⟩
  · rw [if_neg hk, if_neg hk]
    have hl : lensOk e x = lensOk e y := by rw [lensOk, lensOk, e4]
    rw [hl]
    by_cases h1 : lensOk e y = false
    · rw [if_pos h1, if_pos h1]; exact .bad h 1
    · rw [if_neg h1, if_neg h1]
      by_cases h6 : e.kind = 6
      · rw [if_pos h6, if_pos h6, e4]
        exact ⟨rfl, h.set i (pur_eq e1 e2 e3 rfl rfl), rfl⟩
      · rw [if_neg h6, if_neg h6, e4, h.nb, h.ng]
        by_cases h7 : 8 ≤ y.blocks.length ∨ b.nb = 9007199254740991 ∨ b.ng = 9007199254740991
        · rw [if_pos h7, if_pos h7]; exact .bad h 4
        · rw [if_neg h7, if_neg h7]
          refine ⟨rfl, ?_, rfl⟩
          have := h.set i (x := { x with blocks := zipLen y.blocks e.lens ++ [⟨b.nb, b.ng, 0⟩] }) (y := { y with blocks := zipLen y.blocks e.lens ++ [⟨b.nb, b.ng, 0⟩] }) (pur_eq e1 e2 e3 rfl e5)
          exact ⟨this.txid, rfl, rfl, this.now, this.nodes, this.leases⟩
theorem do_same {a b : Sp} (h : SameS a b) (e : Ed) : SameR (doE a e) (doE b e) := by
  rw [doE, doE]
  by_cases h1 : e.kind = 1 ∨ e.kind = 2
  · rw [if_pos h1, if_pos h1, addE_same h.nodes, Quota.room_same h.nodes, addL_same h.nodes]
    by_cases c1 : addE b.nodes (newN e) ≠ 0
    · rw [if_pos c1, if_pos c1]; exact .bad h _
    · rw [if_neg c1, if_neg c1]
      by_cases c2 : roomT b.nodes (parD (bs e.path)) < 1
      · rw [if_pos c2, if_pos c2]; exact .bad h 8
      · rw [if_neg c2, if_neg c2]
        have hn := h.nodes' (l := addL b.nodes (newN e)) (m := addL b.nodes (newN e)) rfl
        by_cases c3 : e.kind = 1
        · rw [if_pos c3, if_pos c3]; exact ⟨rfl, hn, rfl⟩
        · rw [if_neg c3, if_neg c3]; exact ⟨rfl, hn.ren _, rfl⟩
  rw [if_neg h1, if_neg h1]
  by_cases h3 : e.kind = 3
  · rw [if_pos h3, if_pos h3, rmE_same h.nodes, rmL_same h.nodes]
    by_cases c1 : rmE b.nodes (bs e.path) ≠ 0
    · rw [if_pos c1, if_pos c1]; exact .bad h _
    · rw [if_neg c1, if_neg c1]; exact ⟨rfl, h.nodes' rfl, rfl⟩
  rw [if_neg h3, if_neg h3]
  by_cases h4 : e.kind = 4
  · rw [if_pos h4, if_pos h4, mvE_all h.nodes, mvL_same h.nodes]
    by_cases c1 : mvE b.nodes (bs e.path) (bs e.dst) ≠ 0
    · rw [if_pos c1, if_pos c1]; exact .bad h _
    · rw [if_neg c1, if_neg c1]
      by_cases c2 : 0 < (overL (mvL b.nodes (bs e.path) (bs e.dst))).length
      · rw [if_pos c2, if_pos c2]; exact .bad h 8
      · rw [if_neg c2, if_neg c2]; exact ⟨rfl, h.nodes' rfl, rfl⟩
  rw [if_neg h4, if_neg h4]
  by_cases h7 : e.kind = 7
  · rw [if_pos h7, if_pos h7]
    refine at_same h _ fun i x y _ _ exy => ?_
    obtain ⟨e1, e2, e3, e4, e5⟩ := pur_same exy
    rw [e2, Quota.cntT_same h.nodes]
    by_cases c1 : y.dir = false
    · rw [if_pos c1, if_pos c1]; exact .bad h 7
    · rw [if_neg c1, if_neg c1]
      by_cases c2 : 0 ≤ e.n ∧ e.n < cntT b.nodes (bs e.path)
      · rw [if_pos c2, if_pos c2]; exact .bad h 8
      · rw [if_neg c2, if_neg c2]
        exact ⟨rfl, h.set i (pur_eq e1 rfl rfl e4 e5), rfl⟩
  rw [if_neg h7, if_neg h7]
  by_cases h8 : e.kind = 8
  · rw [if_pos h8, if_pos h8, h.now]
    by_cases c1 : e.n < b.now ∨ 9007199254740981 < e.n
    · rw [if_pos c1, if_pos c1]; exact .bad h 1
    · rw [if_neg c1, if_neg c1]
      have hn : SameS { a with now := e.n } { b with now := e.n } := ⟨h.txid, h.nb, h.ng, rfl, h.nodes, h.leases⟩
      exact ⟨rfl, hn.ren _, rfl⟩
  rw [if_neg h8, if_neg h8]
  by_cases h10 : e.kind = 10
  · rw [if_pos h10, if_pos h10]
    refine file_same h _ fun i x y _ _ exy => ?_
    obtain ⟨e1, e2, e3, e4, e5⟩ := pur_same exy
    rw [e5]
    by_cases c1 : 0 ≤ y.writer
    · rw [if_pos c1, if_pos c1]; exact .bad h 9
    · rw [if_neg c1, if_neg c1]
      have := h.set i (x := { x with writer := e.client }) (y := { y with writer := e.client }) (pur_eq e1 e2 e3 e4 rfl)
      exact ⟨rfl, this.ren _, rfl⟩
  rw [if_neg h10, if_neg h10]
  refine file_same h _ fun i x y _ _ exy => ?_
  rw [(pur_same exy).2.2.2.2]
  by_cases c1 : y.writer ≠ e.client
  · rw [if_pos c1, if_pos c1]; exact .bad h 9
  · rw [if_neg c1, if_neg c1]; exact write_same h e i exy
structure SameA (p q : Ans) : Prop where
  err : p.err = q.err
  s : SameS p.s q.s
  b : p.b = q.b
  n : pur p.n = pur q.n
theorem SameA.refl (p : Ans) : SameA p p := ⟨rfl, .refl _, rfl, rfl⟩
theorem found_same {q m : List Nd} (e : q.map pur = m.map pur) (p : Bs) : pur ((q.find? fun x => bs x.path == p).getD zeroN) = pur ((m.find? fun x => bs x.path == p).getD zeroN) := by
  have h : (q.find? fun x => bs x.path == p).map pur = (m.find? fun x => bs x.path == p).map pur := by rw [find_map_pur, find_map_pur, e]
  cases hq : q.find? (fun x => bs x.path == p) with
  | none =>
    cases hm : m.find? (fun x => bs x.path == p) with
    | none => rfl
    | some y => rw [hq, hm] at h; cases h
  | some x =>
    cases hm : m.find? (fun x => bs x.path == p) with
    | none => rw [hq, hm] at h; cases h
    | some y => rw [hq, hm] at h; simpa using h
theorem apply_same {a b : Sp} (h : SameS a b) (e : Ed) : SameA (applyE a e) (applyE b e) := by
  have hd := do_same h e
  rw [applyE, applyE, space_same h, h.txid, hd.err]
  by_cases h1 : spaceB b = false ∨ editB e = false
  · rw [if_pos h1, if_pos h1]; exact .refl _
  rw [if_neg h1, if_neg h1]
  by_cases h2 : b.txid = 300
  · rw [if_pos h2, if_pos h2]; exact .refl _
  rw [if_neg h2, if_neg h2]
  by_cases h3 : (doE b e).err ≠ 0
  · rw [if_pos h3, if_pos h3]; exact .refl _
  rw [if_neg h3, if_neg h3]
  refine ⟨rfl, ⟨rfl, hd.s.nb, hd.s.ng, hd.s.now, hd.s.nodes, hd.s.leases⟩, hd.b, ?_⟩
  show pur (if tells e.kind = true then _ else _) = pur (if tells e.kind = true then _ else _)
  by_cases h4 : tells e.kind = true
  · rw [if_pos h4, if_pos h4]; exact found_same hd.s.nodes _
  · rw [if_neg h4, if_neg h4]
/-- Some edits, one by one. -/
def foldE : Sp → List Ed → Int × Sp
  | s, [] => (0, s)
  | s, e :: l => if (applyE s e).err ≠ 0 then ((applyE s e).err, zeroS) else foldE (applyE s e).s l
theorem fold_same {e : List Ed} : ∀ {a b : Sp}, SameS a b → (foldE a e).1 = (foldE b e).1 ∧ SameS (foldE a e).2 (foldE b e).2 := by
  induction e with
  | nil => intro a b h; exact ⟨rfl, h⟩
  | cons x t ih =>
    intro a b h
    have ha := apply_same h x
    rw [foldE, foldE, ha.err]
    by_cases c : (applyE b x).err ≠ 0
    · rw [if_pos c, if_pos c]; exact ⟨rfl, .refl _⟩
    · rw [if_neg c, if_neg c]; exact ih ha.s
theorem fold_app (s : Sp) (l m : List Ed) : foldE s (l ++ m) = if (foldE s l).1 ≠ 0 then foldE s l else foldE (foldE s l).2 m := by
  induction l generalizing s with
  | nil => rfl
  | cons x t ih =>
    rw [List.cons_append, foldE, foldE]
    by_cases c : (applyE s x).err ≠ 0
    · rw [if_pos c, if_pos c, if_pos c]
    · rw [if_neg c, if_neg c, ih]
end Go.Proofs.YtdfckkadmgmcaaaGreatDoor.Space

/- Edits of spaces, in plain words: the time, the leases; a quota that is set, and a directory more. -/
namespace Go.Proofs.YtdfckkadmgmcaaaGreatDoor.Space
open Go.RowKit
open Path (Bs bs mk bs_mk mk_bs tl_bs MaxC splitE splitL parD underL nameL)
open Tree
open Quota (overL overP cntN cntT roomT roomK roomStep dirAt)
set_option linter.unusedSimpArgs false
set_option linter.unusedVariables false
theorem at_now {s : Sp} {p : Bs} {f : Nat → Nd → Res} (hf : ∀ i x, (f i x).s.now = s.now) : (atN s p f).s.now = s.now := by
  rw [atN]
  split
  · rfl
  · split
    · rfl
    · split
      · rfl
      · exact hf _ _
theorem write_now {s : Sp} {e : Ed} {i : Nat} {x : Nd} : (doWrite s e i x).s.now = s.now := by
  rw [doWrite]
  repeat' split
  all_goals rfl
theorem do_now {s : Sp} {e : Ed} (h : (doE s e).err = 0) : (doE s e).s.now = if e.kind = 8 then e.n else s.now := by
  by_cases h8 : e.kind = 8
  · rw [if_pos h8]
    have e0 : doE s e = if e.n < s.now ∨ 9007199254740981 < e.n then bad s 1 else ⟨0, renS { s with now := e.n } e.client, noBl⟩ := by rw [doE, if_neg (by omega), if_neg (by omega), if_neg (by omega), if_neg (by omega), if_pos h8]
    rw [e0] at h ⊢
    by_cases hn : e.n < s.now ∨ 9007199254740981 < e.n
    · rw [if_pos hn] at h; cases h
    · rw [if_neg hn]; rfl
  · rw [if_neg h8, doE]
    split
    · repeat' split
      all_goals rfl
    split
    · repeat' split
      all_goals rfl
    split
    · repeat' split
      all_goals rfl
    split
    · refine at_now fun i x => ?_
      repeat' split
      all_goals rfl
    split
    · refine at_now fun i x => ?_
      split
      · rfl
      · simp only []; split <;> rfl
    · refine at_now fun i x => ?_
      split
      · rfl
      · simp only []
        split
        · rfl
        · exact write_now
/-- The edits that renew a lease. -/
theorem do_ren {s : Sp} {e : Ed} (hs : RightS s) (hk : e.kind = 2 ∨ e.kind = 8 ∨ e.kind = 10) (h : (doE s e).err = 0) : ∃ t : Sp, (doE s e).s = renS t e.client ∧ t.leases = s.leases ∧ s.now ≤ t.now ∧ t.now ≤ 9007199254740981 := by
  have hn := hs.nums
  rcases hk with hk | hk | hk
  · have e0 : doE s e = if addE s.nodes (newN e) ≠ 0 then bad s (addE s.nodes (newN e))
        else if roomT s.nodes (parD (bs e.path)) < 1 then bad s 8
        else if e.kind = 1 then ⟨0, { s with nodes := addL s.nodes (newN e) }, noBl⟩
        else ⟨0, renS { s with nodes := addL s.nodes (newN e) } e.client, noBl⟩ := by rw [doE, if_pos (.inr hk)]
    rw [e0] at h ⊢
    by_cases c1 : addE s.nodes (newN e) ≠ 0
    · rw [if_pos c1] at h; exact absurd h c1
    · rw [if_neg c1] at h ⊢
      by_cases c2 : roomT s.nodes (parD (bs e.path)) < 1
      · rw [if_pos c2] at h; cases h
      · rw [if_neg c2, if_neg (by omega)]
        exact ⟨_, rfl, rfl, Int.le_refl _, hn.2.2.2.2.2.2.2⟩
  · have e0 : doE s e = if e.n < s.now ∨ 9007199254740981 < e.n then bad s 1 else ⟨0, renS { s with now := e.n } e.client, noBl⟩ := by rw [doE, if_neg (by omega), if_neg (by omega), if_neg (by omega), if_neg (by omega), if_pos hk]
    rw [e0] at h ⊢
    by_cases c1 : e.n < s.now ∨ 9007199254740981 < e.n
    · rw [if_pos c1] at h; cases h
    · rw [if_neg c1]
      exact ⟨_, rfl, rfl, by show s.now ≤ e.n; omega, by show e.n ≤ _; omega⟩
  · have e0 : doE s e = fileN s (bs e.path) fun i x => if 0 ≤ x.writer then bad s 9 else ⟨0, renS (setN s i { x with writer := e.client }) e.client, noBl⟩ := by
      rw [doE, if_neg (by omega), if_neg (by omega), if_neg (by omega), if_neg (by omega), if_neg (by omega), if_pos hk]
    rw [e0] at h ⊢
    obtain ⟨_, i, x, _, _, _, _, h5⟩ := file_zero h
    rw [h5] at h ⊢
    by_cases c1 : 0 ≤ x.writer
    · rw [if_pos c1] at h; cases h
    · rw [if_neg c1]
      exact ⟨_, rfl, rfl, Int.le_refl _, hn.2.2.2.2.2.2.2⟩
theorem do_lease {s : Sp} {e : Ed} (hs : RightS s) (he : EdOk e) (hk : e.kind = 2 ∨ e.kind = 8 ∨ e.kind = 10) (h : (doE s e).err = 0) :
    Lease.untilB e.client (doE s e).s.leases = true ∧ (doE s e).s.now + 10 ≤ Lease.untilU e.client (doE s e).s.leases := by
  obtain ⟨t, h1, h2, h3, h4⟩ := do_ren hs hk h
  rw [h1]
  have hn := hs.nums
  have hc := he.client
  have hok : Lease.renOk e.client t.now t.leases = true := Lease.renOk_iff.2 ⟨by rw [h2]; exact hs.lease, hc.1, by omega, by omega, h4⟩
  show Lease.untilB e.client (Lease.renR e.client t.now t.leases) = true ∧ t.now + 10 ≤ Lease.untilU e.client (Lease.renR e.client t.now t.leases)
  rw [ren_is hok]
  have := Lease.ren_until hok
  exact ⟨this.2, by rw [this.1]; omega⟩
theorem at_hit {s : Sp} {p : Bs} {f : Nat → Nd → Res} {i : Nat} {x : Nd} (hE : splitE p = 0) (hi : (s.nodes.findIdx? fun x => bs x.path == p) = some i) (hx : s.nodes[i]? = some x) : atN s p f = f i x := by
  rw [atN, if_neg (by omega), hi]
  simp only [hx]
theorem at_none {s : Sp} {p : Bs} {f : Nat → Nd → Res} (hi : (s.nodes.findIdx? fun x => bs x.path == p) = none) : (atN s p f).err ≠ 0 := by
  rw [atN]
  split
  · exact fun h => by cases h
  · rw [hi]; exact fun h => by cases h
def quoEd (p : ByteArray) (n : Int) (v : Value) : Ed := ⟨7, p, ⟨#[]⟩, 0, 0, n, [], v⟩
def dirEd (p : ByteArray) (v : Value) : Ed := ⟨1, p, ⟨#[]⟩, 0, 0, 0, [], v⟩
theorem quo_ok {p : ByteArray} {n : Int} {v : Value} (hp : splitE (bs p) = 0) (hn : 0 ≤ n ∧ n < 70) : editB (quoEd p n v) = true := by
  refine (edit_iff _).2 ⟨⟨?_, ?_⟩, ?_, ?_, ?_, ?_, ?_, ?_, ?_, ?_, ?_⟩
  · show (1 : Int) ≤ 7; omega
  · show (7 : Int) ≤ 10; omega
  · show p.size ≤ 120
    have : (bs p).length ≤ 120 := by
      rw [splitE] at hp
      split at hp
      · cases hp
      · omega
    simpa [bs] using this
  · show (0 : Nat) ≤ 120; omega
  · intro _; rfl
  · intro _ _; rfl
  · show (0 : Nat) ≤ 8; omega
  · show (0 : Int) ≤ 0 ∧ (0 : Int) ≤ 3; omega
  · show (0 : Int) ≤ 0 ∧ (0 : Int) ≤ 9007199254740991; omega
  · show (-1 : Int) ≤ n ∧ n ≤ 9007199254740991; omega
  · intro k hk; cases hk
theorem quo_do (s : Sp) (p : ByteArray) (n : Int) (v : Value) : doE s (quoEd p n v) = atN s (bs p) fun i x =>
    if x.dir = false then bad s 7 else if 0 ≤ n ∧ n < cntT s.nodes (bs p) then bad s 8 else ⟨0, setN s i { x with quota := n }, noBl⟩ := by
  rw [doE, if_neg (by show ¬ ((7 : Int) = 1 ∨ (7 : Int) = 2); omega), if_neg (by show ¬ (7 : Int) = 3; omega), if_neg (by show ¬ (7 : Int) = 4; omega), if_pos (show (quoEd p n v).kind = 7 from rfl)]; rfl
theorem apply_err {s : Sp} {e : Ed} (h : (doE s e).err ≠ 0) : (applyE s e).err ≠ 0 := by
  intro h0
  exact h (apply_ok h0).2.2.2.1
theorem apply_do {s : Sp} {e : Ed} (hs : RightS s) (he : editB e = true) (ht : s.txid < 300) : (applyE s e).err = (doE s e).err := by
  rw [applyE, if_neg (by rw [(right_iff s).2 hs, he]; simp), if_neg (by omega)]
  by_cases h : (doE s e).err = 0
  · rw [if_neg (by omega), h]
  · rw [if_pos h]; rfl
/-- A quota that is set: where there is no directory; where it is too small; where it is great enough. -/
theorem quo_none {s : Sp} {p : ByteArray} {n : Int} {v : Value} (h : ∀ x ∈ s.nodes, bs x.path = bs p → x.dir = false) : (applyE s (quoEd p n v)).err ≠ 0 := by
  refine apply_err ?_
  rw [quo_do]
  intro h0
  obtain ⟨_, i, x, _, h3, h4, h5⟩ := at_zero h0
  rw [h5, if_pos (h x (List.mem_of_getElem? h3) h4)] at h0
  cases h0
theorem idx_of {l : List Nd} (h : Rises l) {i : Nat} {x : Nd} {p : Bs} (hx : l[i]? = some x) (hp : bs x.path = p) : (l.findIdx? fun x => bs x.path == p) = some i := by
  rw [List.findIdx?_eq_some_iff_getElem]
  obtain ⟨hlt, rfl⟩ := List.getElem?_eq_some_iff.1 hx
  refine ⟨hlt, by simpa using hp, fun j hj => ?_⟩
  intro hc
  have hjl : j < l.length := by omega
  have := rises_inj h (i := j) (j := i) (x := l[j]) (y := l[i]) (by simp [hjl]) (by simp [hlt]) (by rw [hp]; simpa using hc)
  omega
theorem quo_less {s : Sp} (hs : RightS s) (ht : s.txid < 300) {p : ByteArray} {n : Int} {v : Value} (hn : 0 ≤ n ∧ n < 70) {i : Nat} {x : Nd} (hx : s.nodes[i]? = some x) (hp : bs x.path = bs p) (hd : x.dir = true) (hc : n < cntN s.nodes (bs p)) : (applyE s (quoEd p n v)).err = 8 := by
  have hE : splitE (bs p) = 0 := by rw [← hp]; exact fits_split (hs.tree.fits x (List.mem_of_getElem? hx))
  rw [apply_do hs (quo_ok hE hn) ht, quo_do, at_hit hE (idx_of hs.tree.rises hx hp) hx, if_neg (by rw [hd]; simp), if_pos ⟨hn.1, by rw [cntT, if_pos (p_right hs.tree)]; exact hc⟩]; rfl
theorem quo_more {s : Sp} (hs : RightS s) (ht : s.txid < 300) {p : ByteArray} {n : Int} {v : Value} (hn : 0 ≤ n ∧ n < 70) {i : Nat} {x : Nd} (hx : s.nodes[i]? = some x) (hp : bs x.path = bs p) (hd : x.dir = true) (hc : ¬ n < cntN s.nodes (bs p)) :
    (applyE s (quoEd p n v)).err = 0 ∧ (applyE s (quoEd p n v)).s.nodes = s.nodes.set i { x with quota := n } := by
  have hE : splitE (bs p) = 0 := by rw [← hp]; exact fits_split (hs.tree.fits x (List.mem_of_getElem? hx))
  have hdo : doE s (quoEd p n v) = ⟨0, setN s i { x with quota := n }, noBl⟩ := by
    rw [quo_do, at_hit hE (idx_of hs.tree.rises hx hp) hx, if_neg (by rw [hd]; simp), if_neg (by rw [cntT, if_pos (p_right hs.tree)]; omega)]
  have h0 : (applyE s (quoEd p n v)).err = 0 := by rw [apply_do hs (quo_ok hE hn) ht, hdo]
  exact ⟨h0, by rw [(apply_ok h0).2.2.2.2, hdo]; rfl⟩
/-- Where a directory holds just its quota, nothing more comes in. -/
theorem quo_full {t : Sp} {p q : ByteArray} {v : Value} {x : Nd} (hx : x ∈ t.nodes) (hp : bs x.path = bs p) (hn : x.quota = cntN t.nodes (bs p)) (hq : bs q = inD (bs p) ++ [110, 101, 119]) : (applyE t (dirEd q v)).err ≠ 0 := by
  intro h0
  obtain ⟨hs, -, -, h1, -⟩ := apply_ok h0
  have hE : splitE (bs p) = 0 := by rw [← hp]; exact fits_split (hs.tree.fits x hx)
  rw [doE, if_pos (show (dirEd q v).kind = 1 ∨ (dirEd q v).kind = 2 from .inl rfl)] at h1
  by_cases c1 : addE t.nodes (newN (dirEd q v)) ≠ 0
  · rw [if_pos c1] at h1; exact c1 h1
  · rw [if_neg c1] at h1
    have hA : addE t.nodes (newN (dirEd q v)) = 0 := by omega
    obtain ⟨_, hf, _⟩ := addE_zero hA
    have hqE : splitE (bs q) = 0 := fits_split hf
    have hpar : parD (bs q) = bs p := by
      rw [hq] at hqE ⊢
      exact (par_join hE (by decide) hqE).1
    have hroom : roomT t.nodes (parD (bs (dirEd q v).path)) < 1 := by
      show roomT t.nodes (parD (bs q)) < 1
      rw [hpar]
      apply Classical.byContradiction
      intro hr
      have := room_above hr hx (by omega) (by rw [hp]; exact under_self hE)
      rw [hp] at this
      omega
    rw [if_pos hroom] at h1
    cases h1
end Go.Proofs.YtdfckkadmgmcaaaGreatDoor.Space

/- Spaces, in plain words: what is told of a path; blocks by their numbers; what writing, moving and deleting do to them. -/
namespace Go.Proofs.YtdfckkadmgmcaaaGreatDoor.Space
open Go.RowKit
open Path (Bs bs mk bs_mk mk_bs tl_bs MaxC splitE splitL parD underL nameL moveS)
open Tree
open Quota (overL overP cntN cntT roomT roomK roomStep dirAt)
set_option linter.unusedSimpArgs false
set_option linter.unusedVariables false
def statE (s : Sp) (p : Bs) : Int := if splitE p = 0 ∧ spaceB s = true then (if (s.nodes.find? fun x => bs x.path == p).isSome = true then 0 else 5) else 1
def statN (s : Sp) (p : Bs) : Nd := if statE s p = 0 then (s.nodes.find? fun x => bs x.path == p).getD zeroN else zeroN
theorem stat_at {s : Sp} (hs : RightS s) {x : Nd} {p : Bs} (hx : x ∈ s.nodes) (hp : bs x.path = p) : statE s p = 0 ∧ statN s p = x := by
  subst hp
  have hE : splitE (bs x.path) = 0 := fits_split (hs.tree.fits x hx)
  have hf := find_mem hs.tree.rises hx
  have h0 : statE s (bs x.path) = 0 := by rw [statE, if_pos ⟨hE, (right_iff s).2 hs⟩, hf]; rfl
  exact ⟨h0, by rw [statN, if_pos h0, hf]; rfl⟩
theorem stat_none {s : Sp} (hs : RightS s) {p : Bs} (hE : splitE p = 0) (h : findI p s.nodes < 0) : statE s p = 5 ∧ statN s p = zeroN := by
  have hf := find_neg.1 h
  have h0 : statE s p = 5 := by rw [statE, if_pos ⟨hE, (right_iff s).2 hs⟩, hf]; rfl
  exact ⟨h0, by rw [statN, h0]; rfl⟩
theorem stat_same {a b : Sp} (h : SameS a b) (p : Bs) : statE a p = statE b p ∧ pur (statN a p) = pur (statN b p) := by
  have h1 : statE a p = statE b p := by rw [statE, statE, space_same h, isSome_same h.nodes]
  refine ⟨h1, ?_⟩
  rw [statN, statN, h1]
  split
  · exact found_same h.nodes p
  · rfl
/-- Blocks by their numbers. -/
abbrev ById (q : List Bl) : Prop := q.Pairwise fun a b => a.id ≤ b.id
structure Sorts (q B : List Bl) : Prop where
  perm : q.Perm B
  by_id : ById q
theorem id_inj {B : List Bl} (h : (ids B).Nodup) {a b : Bl} (ha : a ∈ B) (hb : b ∈ B) (e : a.id = b.id) : a = b := by
  induction B with
  | nil => cases ha
  | cons x t ih =>
    rw [ids, List.map_cons, List.nodup_cons] at h
    rcases List.mem_cons.1 ha with h1 | h1
    · rcases List.mem_cons.1 hb with h2 | h2
      · rw [h1, h2]
      · exact absurd (List.mem_map.2 ⟨b, h2, by rw [← e, h1]⟩) h.1
    · rcases List.mem_cons.1 hb with h2 | h2
      · exact absurd (List.mem_map.2 ⟨a, h1, by rw [e, h2]⟩) h.1
      · exact ih h.2 h1 h2
theorem sorts_one {q r B : List Bl} (hB : (ids B).Nodup) (hq : Sorts q B) (hr : r.Perm B) (hs : ById r) : q = r := by
  refine List.Perm.eq_of_pairwise (le := fun a b => a.id ≤ b.id) (fun a b ha hb h1 h2 => ?_) hq.by_id hs (hq.perm.trans hr.symm)
  exact id_inj hB (hq.perm.mem_iff.1 ha) (hr.mem_iff.1 hb) (by omega)
theorem sorts_sub {q r B C : List Bl} (hB : (ids B).Nodup) (hq : Sorts q B) (hr : Sorts r C) {D : List Bl} (hs : D.Sublist B) (hD : D.Perm C) : r.Sublist q := by
  classical
  have e : r = q.filter fun a => decide (a ∈ D) := by
    have hnd : B.Nodup := by
      rw [ids] at hB
      exact (List.pairwise_map.1 hB).imp fun {a b} h e => h (by rw [e])
    refine sorts_one (B := D) (hB.sublist (hs.map _)) ⟨hr.perm.trans hD.symm, hr.by_id⟩ ?_ (hq.by_id.filter _)
    have h1 : (q.filter fun a => decide (a ∈ D)).Perm (B.filter fun a => decide (a ∈ D)) := hq.perm.filter _
    refine h1.trans ?_
    have : B.filter (fun a => decide (a ∈ D)) = D := by
      clear h1 hq hr hB hD
      induction hs with
      | slnil => rfl
      | cons a h ih =>
        rename_i l1 l2
        rw [List.nodup_cons] at hnd
        rw [List.filter_cons, if_neg (by intro hc; exact hnd.1 (h.mem (by simpa using hc)))]
        exact ih hnd.2
      | cons_cons a h ih =>
        rename_i l1 l2
        rw [List.nodup_cons] at hnd
        rw [List.filter_cons, if_pos (by simp)]
        congr 1
        have h3 : l2.filter (fun b => decide (b ∈ a :: l1)) = l2.filter (fun b => decide (b ∈ l1)) := by
          apply List.filter_congr
          intro b hb
          have hne : b ≠ a := fun e => hnd.1 (e ▸ hb)
          simp [hne]
        rw [h3]; exact ih hnd.2
    rw [this]
  rw [e]
  exact List.filter_sublist
/-- What a writer does. -/
theorem write_tells {s : Sp} {e : Ed} (hk : e.kind = 5 ∨ e.kind = 6 ∨ e.kind = 9) (h : (doE s e).err = 0) : ∃ i x y, s.nodes[i]? = some x ∧ bs x.path = bs e.path ∧ x.writer = e.client ∧ (doE s e).s.nodes = s.nodes.set i y ∧ y.path = x.path ∧
    (e.kind = 6 → y.writer = -1) ∧ (e.kind ≠ 6 → (doE s e).b.gen = s.ng) ∧ (e.kind = 5 → (doE s e).b.id = s.nb) := by
  have e0 : doE s e = fileN s (bs e.path) fun i x => if x.writer ≠ e.client then bad s 9 else doWrite s e i x := by rw [doE, if_neg (by omega), if_neg (by omega), if_neg (by omega), if_neg (by omega), if_neg (by omega), if_neg (by omega)]
  rw [e0] at h ⊢
  obtain ⟨g1, i, x, g2, g3, g4, hd, g5⟩ := file_zero h
  rw [g5] at h ⊢
  by_cases hw : x.writer = e.client
  · rw [if_neg (by omega)] at h ⊢
    rw [doWrite] at h ⊢
    by_cases h9 : e.kind = 9
    · rw [if_pos h9] at h ⊢
      by_cases c1 : (x.blocks.length : Int) ≤ e.n
      · rw [if_pos c1] at h; cases h
      rw [if_neg c1] at h ⊢
      by_cases c2 : s.ng = 9007199254740991
      · rw [if_pos c2] at h; cases h
      rw [if_neg c2] at h ⊢
      cases hb : x.blocks[e.n.toNat]? with
      | none => rw [hb] at h; cases h
      | some b => exact ⟨i, x, { x with blocks := x.blocks.set e.n.toNat { b with gen := s.ng } }, g3, g4, hw, rfl, rfl, fun h => by omega, fun _ => rfl, fun h => by omega⟩
    · rw [if_neg h9] at h ⊢
      by_cases c1 : lensOk e x = false
      · rw [if_pos c1] at h; cases h
      rw [if_neg c1] at h ⊢
      by_cases h6 : e.kind = 6
      · rw [if_pos h6]
        exact ⟨i, x, { x with blocks := zipLen x.blocks e.lens, writer := -1 }, g3, g4, hw, rfl, rfl, fun _ => rfl, fun h => absurd h6 h, fun h => by omega⟩
      · rw [if_neg h6] at h ⊢
        by_cases c2 : 8 ≤ x.blocks.length ∨ s.nb = 9007199254740991 ∨ s.ng = 9007199254740991
        · rw [if_pos c2] at h; cases h
        rw [if_neg c2]
        exact ⟨i, x, { x with blocks := zipLen x.blocks e.lens ++ [⟨s.nb, s.ng, 0⟩] }, g3, g4, hw, rfl, rfl, fun h => absurd h h6, fun _ => rfl, fun _ => rfl⟩
  · rw [if_pos hw] at h; cases h
/-- The edits that leave all blocks as they are. -/
theorem do_blocks {s : Sp} {e : Ed} (hk : e.kind = 1 ∨ e.kind = 7 ∨ e.kind = 8) (h : (doE s e).err = 0) : (allB (doE s e).s.nodes).Perm (allB s.nodes) := by
  rcases hk with hk | hk | hk
  · rw [doE, if_pos (.inl hk)] at h ⊢
    by_cases c1 : addE s.nodes (newN e) ≠ 0
    · rw [if_pos c1] at h; exact absurd h c1
    rw [if_neg c1] at h ⊢
    by_cases c2 : roomT s.nodes (parD (bs e.path)) < 1
    · rw [if_pos c2] at h; cases h
    rw [if_neg c2, if_pos hk]
    show (allB (addL s.nodes (newN e))).Perm _
    rw [addL, allB_pur]
    exact allB_ins _ _
  · have e0 : doE s e = atN s (bs e.path) fun i x => if x.dir = false then bad s 7 else if 0 ≤ e.n ∧ e.n < cntT s.nodes (bs e.path) then bad s 8 else ⟨0, setN s i { x with quota := e.n }, noBl⟩ := by
      rw [doE, if_neg (by omega), if_neg (by omega), if_neg (by omega), if_pos hk]
    rw [e0] at h ⊢
    obtain ⟨_, i, x, _, h3, _, h5⟩ := at_zero h
    rw [h5] at h ⊢
    by_cases c1 : x.dir = false
    · rw [if_pos c1] at h; cases h
    rw [if_neg c1] at h ⊢
    by_cases c2 : 0 ≤ e.n ∧ e.n < cntT s.nodes (bs e.path)
    · rw [if_pos c2] at h; cases h
    rw [if_neg c2]
    show (allB (s.nodes.set i _)).Perm _
    rw [allB_set h3, ← allB_at h3]
  · have e0 : doE s e = if e.n < s.now ∨ 9007199254740981 < e.n then bad s 1 else ⟨0, renS { s with now := e.n } e.client, noBl⟩ := by rw [doE, if_neg (by omega), if_neg (by omega), if_neg (by omega), if_neg (by omega), if_pos hk]
    rw [e0] at h ⊢
    by_cases c1 : e.n < s.now ∨ 9007199254740981 < e.n
    · rw [if_pos c1] at h; cases h
    rw [if_neg c1]
    exact List.Perm.refl _
def movEd (p q : ByteArray) (v : Value) : Ed := ⟨4, p, q, 0, 0, 0, [], v⟩
def delEd (p : ByteArray) (v : Value) : Ed := ⟨3, p, ⟨#[]⟩, 0, 0, 0, [], v⟩
theorem mov_do {s : Sp} {p q : ByteArray} {v : Value} (h : (applyE s (movEd p q v)).err = 0) : mvE s.nodes (bs p) (bs q) = 0 ∧ (applyE s (movEd p q v)).s.nodes = mvL s.nodes (bs p) (bs q) := by
  obtain ⟨hs, he, ht, h3, h4⟩ := apply_ok h
  rw [h4]
  have e0 : doE s (movEd p q v) = if mvE s.nodes (bs p) (bs q) ≠ 0 then bad s (mvE s.nodes (bs p) (bs q)) else if 0 < (overL (mvL s.nodes (bs p) (bs q))).length then bad s 8 else ⟨0, { s with nodes := mvL s.nodes (bs p) (bs q) }, noBl⟩ := by
    rw [doE, if_neg (by show ¬ ((4 : Int) = 1 ∨ (4 : Int) = 2); omega), if_neg (by show ¬ (4 : Int) = 3; omega), if_pos (show (movEd p q v).kind = 4 from rfl)]; rfl
  rw [e0] at h3 ⊢
  by_cases c1 : mvE s.nodes (bs p) (bs q) ≠ 0
  · rw [if_pos c1] at h3; exact absurd h3 c1
  rw [if_neg c1] at h3 ⊢
  by_cases c2 : 0 < (overL (mvL s.nodes (bs p) (bs q))).length
  · rw [if_pos c2] at h3; cases h3
  rw [if_neg c2]
  exact ⟨by omega, rfl⟩
theorem del_do {s : Sp} {p : ByteArray} {v : Value} (h : (applyE s (delEd p v)).err = 0) : rmE s.nodes (bs p) = 0 ∧ (applyE s (delEd p v)).s.nodes = rmL s.nodes (bs p) := by
  obtain ⟨hs, he, ht, h3, h4⟩ := apply_ok h
  rw [h4]
  have e0 : doE s (delEd p v) = if rmE s.nodes (bs p) ≠ 0 then bad s (rmE s.nodes (bs p)) else ⟨0, { s with nodes := rmL s.nodes (bs p) }, noBl⟩ := by
    rw [doE, if_neg (by show ¬ ((3 : Int) = 1 ∨ (3 : Int) = 2); omega), if_pos (show (delEd p v).kind = 3 from rfl)]; rfl
  rw [e0] at h3 ⊢
  by_cases c1 : rmE s.nodes (bs p) ≠ 0
  · rw [if_pos c1] at h3; exact absurd h3 c1
  rw [if_neg c1]
  exact ⟨by omega, rfl⟩
theorem allB_two (f : Nd → Bool) (l : List Nd) : (allB (l.filter f)).length + (allB (l.filter fun x => !f x)).length = (allB l).length := by
  induction l with
  | nil => rfl
  | cons x t ih =>
    rw [List.filter_cons, List.filter_cons]
    have h1 : ∀ (y : Nd) (m : List Nd), (allB (y :: m)).length = y.blocks.length + (allB m).length := fun y m => by rw [allB, List.flatMap_cons, List.length_append]; rfl
    cases f x
    · simp only [Bool.false_eq_true, if_false, Bool.not_false, if_true, h1]; omega
    · simp only [Bool.not_true, Bool.false_eq_true, if_false, if_true, h1]; omega
/-- Who stands at a path, alone. -/
theorem filter_at {l : List Nd} (h : Rises l) (p : Bs) : l.filter (fun x => bs x.path == p) = match l.find? (fun x => bs x.path == p) with
    | none => []
    | some x => [x] := by
  induction l with
  | nil => rfl
  | cons y t ih =>
    have ht : Rises t := (List.pairwise_cons.1 h).2
    rw [List.filter_cons, List.find?_cons]
    by_cases e : bs y.path = p
    · rw [if_pos (by simpa using e)]
      have : (bs y.path == p) = true := by simpa using e
      rw [this]
      have h0 : t.filter (fun x => bs x.path == p) = [] := by
        rw [List.filter_eq_nil_iff]
        intro z hz hc
        have := (List.pairwise_cons.1 h).1 z hz
        rw [e, show bs z.path = p by simpa using hc, lt_irr] at this
        cases this
      rw [h0]
    · have : (bs y.path == p) = false := by simpa using e
      rw [this, if_neg (by simp), ih ht]
theorem blocks_at {s : Sp} (hs : RightS s) (p : Bs) : (allB (s.nodes.filter fun x => bs x.path == p)).length = (statN s p).blocks.length ∨ splitE p ≠ 0 := by
  by_cases hE : splitE p = 0
  · left
    rw [filter_at hs.tree.rises]
    cases hf : s.nodes.find? (fun x => bs x.path == p) with
    | none =>
      rw [(stat_none hs hE (find_neg.2 hf)).2]; rfl
    | some x =>
      have hp : bs x.path = p := by simpa using List.find?_some hf
      rw [(stat_at hs (List.mem_of_find?_eq_some hf) hp).2]
      simp [allB]
  · exact .inr hE
/-- What is moved keeps its blocks and its writer; what it takes the place of is gone. -/
theorem mov_tells {s : Sp} {p q : ByteArray} {v : Value} (h : (applyE s (movEd p q v)).err = 0) : ∃ x y, x ∈ s.nodes ∧ y ∈ (applyE s (movEd p q v)).s.nodes ∧ bs x.path = bs p ∧ bs y.path = bs q ∧ y.blocks = x.blocks ∧ y.writer = x.writer ∧ y.dir = x.dir ∧
    (allB (applyE s (movEd p q v)).s.nodes).length + (statN s (bs q)).blocks.length = (allB s.nodes).length ∧ splitE (bs p) = 0 ∧ findI (bs p) (applyE s (movEd p q v)).s.nodes < 0 := by
  obtain ⟨hs, -⟩ := apply_ok h
  obtain ⟨h1, h2⟩ := mov_do h
  have M := mv_of h1
  obtain ⟨x, hx, hxp⟩ := M.src
  have hu : underL (bs p) (bs x.path) = true := by rw [hxp]; exact under_self M.aE
  rw [h2]
  refine ⟨x, pur (mvN (bs p) (bs q) x), hx, List.mem_map_of_mem (mem_sortd.2 (mem_mvD.2 ⟨x, hx, mvK_up hu, rfl⟩)), hxp, ?_, ?_, ?_, ?_, ?_, M.aE, (move_less h1).2.1⟩
  · show bs (mvN _ _ x).path = _
    rw [(mvN_yes hu).1, M.top hx hxp]
  · show (mvN _ _ x).blocks = _
    rw [mvN, if_pos hu]
  · show (mvN _ _ x).writer = _
    rw [mvN, if_pos hu]
  · show (mvN _ _ x).dir = _
    rw [mvN, if_pos hu]
  · have hb := (blocks_at hs (bs q)).resolve_right (by rw [M.bE]; simp)
    have hl := allB_two (mvK (bs p) (bs q)) s.nodes
    have hp : (allB (sortd (mvD s.nodes (bs p) (bs q)))).Perm (allB (mvD s.nodes (bs p) (bs q))) := (sortd_perm (mvD s.nodes (bs p) (bs q))).flatMap_right _
    have e1 : (allB (mvL s.nodes (bs p) (bs q))).length = (allB (s.nodes.filter (mvK (bs p) (bs q)))).length := by
      rw [mvL, allB_pur, hp.length_eq, allB_mvD]
    have e2 : s.nodes.filter (fun x => !mvK (bs p) (bs q) x) = s.nodes.filter fun x => bs x.path == bs q := by
      apply List.filter_congr
      intro z hz
      rw [mvK]
      by_cases e : bs z.path = bs q
      · rw [e, M.no]; simp
      · have : (bs z.path == bs q) = false := by simpa using e
        rw [this]; simp
    rw [e2] at hl
    omega
/-- What is deleted takes its blocks along. -/
theorem del_tells {s : Sp} {p : ByteArray} {v : Value} (h : (applyE s (delEd p v)).err = 0) : (∃ C : List Bl, C.Sublist (allB s.nodes) ∧ C.Perm (allB (applyE s (delEd p v)).s.nodes)) ∧
    (allB (applyE s (delEd p v)).s.nodes).length + (statN s (bs p)).blocks.length ≤ (allB s.nodes).length ∧ splitE (bs p) = 0 ∧ findI (bs p) (applyE s (delEd p v)).s.nodes < 0 := by
  obtain ⟨hs, -⟩ := apply_ok h
  obtain ⟨h1, h2⟩ := del_do h
  obtain ⟨_, hE, _, _⟩ := rmE_zero h1
  rw [h2]
  have e0 : allB (rmL s.nodes (bs p)) = allB (s.nodes.filter fun x => !underL (bs p) (bs x.path)) := by rw [rmL, allB_pur]
  refine ⟨⟨_, allB_filter _ _, by rw [e0]⟩, ?_, hE, (rem_less h1).2⟩
  rw [e0]
  have hb := (blocks_at hs (bs p)).resolve_right (by rw [hE]; simp)
  have hl := allB_two (fun x => !underL (bs p) (bs x.path)) s.nodes
  have h3 : (allB (s.nodes.filter fun x => bs x.path == bs p)).length ≤ (allB (s.nodes.filter fun x => !!underL (bs p) (bs x.path))).length := by
    have e1 : s.nodes.filter (fun x => bs x.path == bs p) = (s.nodes.filter fun x => !!underL (bs p) (bs x.path)).filter fun x => bs x.path == bs p := by
      rw [List.filter_filter]
      apply List.filter_congr
      intro z hz
      by_cases e : bs z.path = bs p
      · rw [e, under_self hE]; simp
      · have : (bs z.path == bs p) = false := by simpa using e
        rw [this]; simp
    rw [e1]
    exact (allB_filter _ _).length_le
  omega
end Go.Proofs.YtdfckkadmgmcaaaGreatDoor.Space

/- Edits of spaces, in plain words: what the statements on leases and on quotas say. -/
namespace Go.Proofs.YtdfckkadmgmcaaaGreatDoor.Space
open Go.RowKit
open Path (Bs bs mk bs_mk mk_bs tl_bs MaxC splitE splitL parD)
open Tree
open Quota (overL overP cntN cntT)
set_option linter.unusedSimpArgs false
set_option linter.unusedVariables false
/-- SpaceLeases, of one edit. -/
theorem leases_law {s t : Sp} {e : Ed} (h : (applyE s e).err = 0) (ht : SameS t (applyE s e).s) :
    (t.now = s.now ∨ e.kind = 8 ∧ t.now = e.n) ∧ s.now ≤ t.now ∧ (∀ x ∈ t.nodes, 0 ≤ x.writer → Lease.untilB x.writer t.leases = true) ∧
      (e.kind = 2 ∨ e.kind = 10 ∨ e.kind = 8 → Lease.untilB e.client t.leases = true ∧ t.now + 10 ≤ Lease.untilU e.client t.leases) := by
  obtain ⟨hs, he, hx, h0, hA⟩ := apply_ok h
  obtain ⟨hR, h1, h2, h3, h4⟩ := apply_right h
  have hn := do_now h0
  have e1 : (applyE s e).s.now = (doE s e).s.now := by rw [hA]
  have e2 : (applyE s e).s.leases = (doE s e).s.leases := by rw [hA]
  have hT := right_sameS ht.symm hR
  refine ⟨?_, by rw [ht.now]; exact h4, hT.wr, fun hk => ?_⟩
  · rw [ht.now, e1, hn]
    by_cases h8 : e.kind = 8
    · rw [if_pos h8]; exact .inr ⟨h8, rfl⟩
    · rw [if_neg h8]; exact .inl rfl
  · rw [ht.leases, ht.now, e1, e2]
    exact do_lease hs he (by omega) h0
theorem fi_ways (l : List Nd) (p : Bs) : (findI p l = -1 ∧ ∀ x ∈ l, bs x.path ≠ p) ∨ ∃ (k : Nat) (x : Nd), findI p l = (k : Int) ∧ l[k]? = some x ∧ bs x.path = p := by
  cases hi : l.findIdx? (fun x => bs x.path == p) with
  | none =>
    refine .inl ⟨by rw [findI, fiN, hi], fun x hx e => ?_⟩
    have := List.findIdx?_eq_none_iff.1 hi x hx
    rw [e] at this
    simp at this
  | some i =>
    obtain ⟨hlt, h1, -⟩ := List.findIdx?_eq_some_iff_getElem.1 hi
    exact .inr ⟨i, l[i], by rw [findI, fiN, hi], List.getElem?_eq_getElem hlt, by simpa using h1⟩
theorem at_one {l : List Nd} (h : Rises l) {x y : Nd} (hx : x ∈ l) (hy : y ∈ l) (e : bs x.path = bs y.path) : x = y := by
  obtain ⟨i, hi⟩ := List.mem_iff_getElem?.1 hx
  obtain ⟨j, hj⟩ := List.mem_iff_getElem?.1 hy
  have := rises_inj h hi hj e
  subst this
  rw [hi] at hj
  exact Option.some.inj hj
theorem cnt_paths (l : List Nd) (p : Bs) : cntN l p = ((l.map fun x => bs x.path).filter (Path.underL p)).length := by
  rw [cntN, List.filter_map, List.length_map]; rfl
/-- SpaceQuotas: where there is no directory. -/
theorem quotas_none {s : Sp} {p : ByteArray} {n : Int} {v : Value} (h : findI (bs p) s.nodes < 0 ∨ ∃ k x, findI (bs p) s.nodes = (k : Nat) ∧ s.nodes[k]? = some x ∧ x.dir = false) (hs : RightS s) : (applyE s (quoEd p n v)).err ≠ 0 := by
  refine quo_none fun x hx e => ?_
  rcases fi_ways s.nodes (bs p) with ⟨h1, h2⟩ | ⟨k, y, h1, h2, h3⟩
  · exact absurd e (h2 x hx)
  · rcases h with h | ⟨k', y', h4, h5, h6⟩
    · omega
    · have : k' = k := by omega
      subst this
      rw [h2] at h5
      obtain rfl := Option.some.inj h5
      rw [at_one hs.tree.rises hx (List.mem_of_getElem? h2) (e.trans h3.symm)]
      exact h6
/-- SpaceQuotas: where the quota is great enough. -/
theorem quotas_more {s t : Sp} (hs : RightS s) (ht : s.txid < 300) {p q : ByteArray} {n : Int} {v v' : Value} (hn : 0 ≤ n ∧ n < 70) {i : Nat} {x : Nd} (hx : s.nodes[i]? = some x) (hp : bs x.path = bs p) (hd : x.dir = true) (hc : ¬ n < cntT s.nodes (bs p))
    (hT : SameS t (applyE s (quoEd p n v)).s) (hq : bs q = inD (bs p) ++ [110, 101, 119]) : (applyE s (quoEd p n v)).err = 0 ∧ cntT t.nodes (bs p) = cntT s.nodes (bs p) ∧ (cntT s.nodes (bs p) < n ∨ (applyE t (dirEd q v')).err ≠ 0) := by
  have e0 : cntT s.nodes (bs p) = cntN s.nodes (bs p) := by rw [cntT, if_pos (p_right hs.tree)]
  rw [e0] at hc
  obtain ⟨h0, h1⟩ := quo_more (v := v) hs ht hn hx hp hd hc
  have hR := right_sameS hT.symm (apply_right h0).1
  have hm : t.nodes.map pur = (s.nodes.set i { x with quota := n }).map pur := by rw [hT.nodes, h1]
  have hcn : cntN t.nodes (bs p) = cntN s.nodes (bs p) := by
    rw [Quota.cnt_same hm, cnt_paths, cnt_paths, List.map_set, Lease.set_same (by rw [List.getElem?_map, hx]; rfl)]
  have e1 : cntT t.nodes (bs p) = cntN t.nodes (bs p) := by rw [cntT, if_pos (p_right hR.tree)]
  refine ⟨h0, by rw [e0, e1, hcn], ?_⟩
  by_cases hlt : (cntN s.nodes (bs p) : Int) < n
  · left; rw [e0]; exact hlt
  · right
    have hi := (List.getElem?_eq_some_iff.1 hx).1
    have hmem : pur { x with quota := n } ∈ t.nodes.map pur := by
      rw [hm]
      exact List.mem_map_of_mem (List.mem_iff_getElem?.2 ⟨i, List.getElem?_set_self hi⟩)
    obtain ⟨y, hy, hyx⟩ := List.mem_map.1 hmem
    obtain ⟨e2, -, e3, -, -⟩ := pur_same hyx
    refine quo_full hy (by rw [e2]; exact hp) ?_ hq
    rw [e3, hcn]
    show n = _
    omega
end Go.Proofs.YtdfckkadmgmcaaaGreatDoor.Space
