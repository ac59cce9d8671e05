/- Images, in plain words: program and document read the same. -/
import Derived.Test.YtgpddngbccecfaaDoorId
namespace Go.Proofs.YtgpddngbccecfaaDoor.Image
open Go.RowKit
open Path (Bs bs mk bs_mk mk_bs tl_bs MaxC)
open Tree Space
open Wire (numB textB sealB takeN textT openE openT)
open Quota (overL overP cntN)
set_option linter.unusedSimpArgs false
set_option linter.unusedVariables false
theorem cnt_pur (l : List Nd) (p : Bs) : cntN (l.map pur) p = cntN l p := by
  rw [cntN, cntN, List.filter_map, List.length_map]; rfl
theorem over_pur (l : List Nd) : overL (l.map pur) = overL l := by
  rw [overL, overL, right_pur']
  split
  · have e : (overP (l.map pur) ∘ pur) = overP l := by
      funext x
      show (x.dir && decide (0 ≤ x.quota) && decide (x.quota < cntN (l.map pur) (bs x.path))) = _
      rw [cnt_pur]; rfl
    rw [List.filter_map, e, List.map_map]; rfl
  · rfl
theorem space_pur (s : Sp) : spaceB (purS s) = spaceB s := by
  have h1 : numsB (purS s) = numsB s := rfl
  have h2 : partsB (purS s) = partsB s := by
    show (rightT (s.nodes.map pur) && Lease.rightB s.leases && decide ((overL (s.nodes.map pur)).length = 0)) = _
    rw [right_pur', over_pur]; rfl
  have h3 : restB (purS s) = restB s := by
    have e1 : okW s.leases (s.nodes.map pur) ↔ okW s.leases s.nodes := by
      constructor
      · intro h x hx; exact h (pur x) (List.mem_map_of_mem hx)
      · intro h x hx
        obtain ⟨y, hy, rfl⟩ := List.mem_map.1 hx
        exact h y hy
    have e2 : allB (s.nodes.map pur) = allB s.nodes := by rw [allB, List.flatMap_map]; rfl
    show (decide (okW s.leases (s.nodes.map pur)) && decide (okP s.nb s.ng (allB (s.nodes.map pur)))) = _
    rw [e2, restB]
    congr 1
    exact decide_eq_decide.2 e1
  rw [spaceB, spaceB, h1, h2, h3]
theorem image_pur (s : Sp) : imageB (purS s) = imageB s := by
  have e1 : headB (purS s) = headB s := by
    rw [headB, headB]
    have : headI (purS s) = headI s := by rw [headI, headI]; show [s.txid, s.nb, s.ng, s.now, ((s.nodes.map pur).length : Int), (s.leases.length : Int)] = _; rw [List.length_map]
    rw [this]
  have e2 : (s.nodes.map pur).flatMap nodeB = s.nodes.flatMap nodeB := by rw [List.flatMap_map]; rfl
  rw [imageB, imageB, e1]
  show _ ++ (s.nodes.map pur).flatMap nodeB ++ s.leases.flatMap leaseB = _
  rw [e2]
/-- A reading that tells of a right space's parts that space. -/
def Reads (read : List Bs → Option Sp) : Prop := ∀ s, spaceB s = true → read (texts s) = some (purS s)
theorem dec_yes {read : List Bs → Option Sp} (hr : Reads read) {s : Sp} (h : spaceB s = true) : decS read (imageB s) = some (purS s) ∧ decE read (imageB s) = 0 := by
  have h1 : decS read (imageB s) = some (purS s) := by
    rw [decS, image_open h, if_pos rfl]
    simp only []
    rw [hr s h]
    simp only []
    rw [if_pos ⟨by rw [space_pur]; exact h, image_pur s⟩]
  refine ⟨h1, ?_⟩
  rw [decE, image_open h, if_pos rfl, h1]; rfl
theorem dec_some {read : List Bs → Option Sp} {b : Bs} {s : Sp} (h : decS read b = some s) : spaceB s = true ∧ imageB s = b := by
  rw [decS] at h
  split at h
  · split at h
    · cases h
    · split at h
      · rename_i h1; cases h; exact h1
      · cases h
  · cases h
theorem dec_same {r1 r2 : List Bs → Option Sp} (h1 : Reads r1) (h2 : Reads r2) (b : Bs) : decS r1 b = decS r2 b ∧ decE r1 b = decE r2 b := by
  have key : decS r1 b = decS r2 b := by
    cases e1 : decS r1 b with
    | some s =>
      obtain ⟨hs, hb⟩ := dec_some e1
      have a1 := (dec_yes h1 hs).1
      have a2 := (dec_yes h2 hs).1
      rw [hb] at a1 a2
      rw [a2, ← a1, e1]
    | none =>
      cases e2 : decS r2 b with
      | none => rfl
      | some s =>
        obtain ⟨hs, hb⟩ := dec_some e2
        have a1 := (dec_yes h1 hs).1
        rw [hb, e1] at a1
        cases a1
  exact ⟨key, by rw [decE, decE, key]⟩
theorem readsP : Reads readP := fun s h => readP_texts h
theorem readsD : Reads readD := fun s h => readD_texts h
end Go.Proofs.YtgpddngbccecfaaDoor.Image
