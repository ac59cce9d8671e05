/- Trees: tree.Move, walked. -/
import Derived.Test.YtpghaghmejgjbaaGreatDoorTw
namespace Go.Proofs.YtpghaghmejgjbaaGreatDoor.Tree
open Go.RowKit
open Path (Bs bs mk bs_mk mk_bs tl_bs splitE splitL MaxC parD parE parN underL under_calls moveE moveS move_calls)
set_option linter.unusedSimpArgs false
set_option linter.unusedVariables false

def clash (l : List Nd) (b : Bs) (x : Nd) : Bool := match l.find? fun y => bs y.path == b with
  | none => false
  | some y => x.dir || y.dir
/-- What Move tells. -/
def mvE (l : List Nd) (a b : Bs) : Int := if rightT l = true ∧ splitE a = 0 ∧ splitE b = 0 ∧ a ≠ [47] ∧ b ≠ [47] ∧ underL a b = false then
    (match l.find? fun x => bs x.path == a with
      | none => 5
      | some x => if dirE l b ≠ 0 then dirE l b else if clash l b x = true then 6 else if l.any (mvBad a b) = true then 4 else 0)
  else 1
def mvD (l : List Nd) (a b : Bs) : List Nd := (l.filter (mvK a b)).map (mvN a b)
def sortd (l : List Nd) : List Nd := l.foldl (fun o x => ins x o) []
def mvL (l : List Nd) (a b : Bs) : List Nd := (sortd (mvD l a b)).map pur
theorem foldl_ins : ∀ (l o : List Nd), Sorted o → Sorted (l.foldl (fun o x => ins x o) o) ∧ (l.foldl (fun o x => ins x o) o).Perm (o ++ l)
  | [], o, h => ⟨h, by simp⟩
  | x :: t, o, h => by
    have h2 := foldl_ins t (ins x o) (ins_sorted h)
    refine ⟨h2.1, h2.2.trans ?_⟩
    exact ((ins_perm x o).append_right t).trans List.perm_middle.symm
theorem sortd_sorted (l : List Nd) : Sorted (sortd l) := (foldl_ins l [] List.Pairwise.nil).1
theorem sortd_perm (l : List Nd) : (sortd l).Perm l := by
  have h := (foldl_ins l [] List.Pairwise.nil).2
  rwa [List.nil_append] at h
theorem moved_split {p a b : Bs} (hu : underL a p = true) (hE : moveE p a b = 0) : splitE b = 0 ∧ splitE (moveS p a b) = 0 ∧ splitL (moveS p a b) = splitL b ++ (splitL p).drop (splitL a).length := by
  have hok : Path.moveOk p a b = true := by
    rw [moveE] at hE
    by_cases h : Path.moveOk p a b = true
    · exact h
    · rw [if_neg h] at hE; cases hE
  rw [moveE, if_pos hok] at hE
  have hb : splitE b = 0 := by simp only [Path.moveOk, Bool.and_eq_true, decide_eq_true_eq] at hok; exact hok.2
  rw [moveS, if_pos hok, Path.joinS, if_pos hE]
  exact ⟨hb, Path.join_ok hE⟩
theorem mvE_zero {l : List Nd} {a b : Bs} (h : mvE l a b = 0) : rightT l = true ∧ splitE a = 0 ∧ splitE b = 0 ∧ a ≠ [47] ∧ b ≠ [47] ∧ underL a b = false ∧ ∃ x, l.find? (fun x => bs x.path == a) = some x ∧ dirE l b = 0 ∧ clash l b x = false ∧ l.any (mvBad a b) = false := by
  rw [mvE] at h
  split at h
  · rename_i hc
    split at h
    · cases h
    · rename_i x hx
      refine ⟨hc.1, hc.2.1, hc.2.2.1, hc.2.2.2.1, hc.2.2.2.2.1, hc.2.2.2.2.2, x, hx, ?_⟩
      by_cases h1 : dirE l b = 0
      · rw [if_neg (by simpa using h1)] at h
        cases h2 : clash l b x
        · rw [h2, if_neg (by simp)] at h
          cases h3 : l.any (mvBad a b)
          · exact ⟨h1, rfl, rfl⟩
          · rw [h3, if_pos rfl] at h; cases h
        · rw [h2, if_pos rfl] at h; cases h
      · rw [if_pos h1] at h; exact absurd h h1
  · cases h
/-- What is moved, where nothing is in the way, has no path twice. -/
theorem mv_nodup {l : List Nd} {a b : Bs} (h : mvE l a b = 0) : ((mvD l a b).map fun x => bs x.path).Nodup := by
  obtain ⟨hr, ha, hb, _, _, _, x0, _, _, hcl, hbad⟩ := mvE_zero h
  have hE : ∀ x ∈ l, underL a (bs x.path) = true → moveE (bs x.path) a b = 0 := fun x hx hu => by
    have := List.any_eq_false.1 hbad x hx
    rw [mvBad, hu] at this
    simpa using this
  rw [mvD, List.map_map]
  refine List.pairwise_map.2 ?_
  refine List.Pairwise.imp_of_mem (R := fun x y => ltB (bs x.path) (bs y.path) = true) (fun {x y} hx hy hlt e => ?_) ((right_rises hr).filter _)
  obtain ⟨hxl, hxk⟩ := List.mem_filter.1 hx
  obtain ⟨hyl, hyk⟩ := List.mem_filter.1 hy
  have mixed : ∀ x ∈ l, ∀ y ∈ l, underL a (bs x.path) = true → underL a (bs y.path) = false → mvK a b y = true → bs (mvN a b x).path ≠ bs (mvN a b y).path := fun x hx y hy hu hv hk e => by
    rw [mvN, if_pos hu, mvN, if_neg (by rw [hv]; simp)] at e
    obtain ⟨_, h1, h2⟩ := moved_split hu (hE x hx hu)
    rw [bs_mk] at e
    have hyb : bs y.path ≠ b := by rw [mvK, hv] at hk; simpa using hk
    have hub : underL b (bs y.path) = true := Path.under_iff.2 ⟨hb, by rw [← e]; exact h1, by rw [← e, h2]; exact List.prefix_append _ _⟩
    obtain ⟨z, hz, hzp, hzd⟩ := up_in hr _ y hy rfl b hub
    have hf : l.find? (fun y => bs y.path == b) = some z := by
      obtain ⟨i, hi, rfl⟩ := List.mem_iff_getElem.1 hz
      have := find_at (right_rises hr) (List.getElem?_eq_getElem hi)
      rwa [hzp] at this
    rw [clash, hf] at hcl
    simp [hzd (Ne.symm hyb)] at hcl
  show False
  simp only [Function.comp] at e
  cases hux : underL a (bs x.path) <;> cases huy : underL a (bs y.path)
  · rw [mvN, if_neg (by rw [hux]; simp), mvN, if_neg (by rw [huy]; simp)] at e
    exact lt_ne hlt e
  · exact mixed y hyl x hxl huy hux hxk e.symm
  · exact mixed x hxl y hyl hux huy hyk e
  · rw [mvN, if_pos hux, mvN, if_pos huy, bs_mk, bs_mk] at e
    obtain ⟨_, _, h2⟩ := moved_split hux (hE x hxl hux)
    obtain ⟨_, _, h3⟩ := moved_split huy (hE y hyl huy)
    rw [e, h3] at h2
    have h4 := List.append_cancel_left h2
    obtain ⟨_, hx1, hx2⟩ := Path.under_iff.1 hux
    obtain ⟨_, hy1, hy2⟩ := Path.under_iff.1 huy
    obtain ⟨s, hs⟩ := hx2
    obtain ⟨t, ht⟩ := hy2
    rw [← hs, ← ht, List.drop_left, List.drop_left] at h4
    exact lt_ne hlt (Path.split_inj hx1 hy1 (by rw [← hs, ← ht, h4]))
theorem mv_rises {l : List Nd} {a b : Bs} (h : mvE l a b = 0) : Rises (mvL l a b) := by
  refine List.pairwise_map.2 ((sorted_rises (sortd_sorted _) ?_).imp fun {a b} h => h)
  exact (((sortd_perm _).map fun x => bs x.path).nodup_iff).2 (mv_nodup h)
theorem any_take {l : List Nd} {f : Nd → Bool} {k : Nat} {x : Nd} (hx : l[k]? = some x) : ((l.take k).any f || f x) = (l.take (k + 1)).any f := by
  rw [List.take_add_one, hx, List.any_append]; simp
theorem mv_choice (w : World) (A B C : Nat) (p q : ByteArray) (l : List Nd) (hl : ∀ x ∈ l, ∃ ax cx, x.bv = .slice ax x.blocks.length cx) (hA : w.heap[A]? = some (.cells #[.string p] 9 (0, 0))) (hB : w.heap[B]? = some (.cells #[.string q] 9 (0, 0))) (hC : C < w.heap.size) (hAC : A ≠ C) (hBC : B ≠ C) (hM : ∀ W, Upd (fun i => i = C) w W → MaxC W) :
    Choice w (fun i => i = C) 50 #[.pointer (some ⟨A, 0, none⟩), .pointer (some ⟨B, 0, none⟩), .pointer (some ⟨C, 0, none⟩)] l (mvN (bs p) (bs q)) (mvK (bs p) (bs q)) (fun k W => W.heap[C]? = some (.cells #[.bool ((l.take k).any (mvBad (bs p) (bs q)))] 4 (0, 0))) where
  calls W hW k x hx hJ := by
    refine (mv1_calls W A B C p q _ x (hl x (List.mem_of_getElem? hx)) (hW.block_eq hA hAC) (hW.block_eq hB hBC) hJ hAC hBC (hM W hW)).mono ?_
    rintro e w' ⟨he, hb, hc⟩
    refine ⟨he, hb, ?_⟩
    rw [any_take hx] at hc
    exact hc
  keep W W' k hJ hW := (hW C rfl).trans hJ
  bl x _ := by rw [mvN]; split <;> rfl
  old i h := by rw [h]; exact hC
  enters := enters Tryz.func50 (by rfl) (by rfl)
end Go.Proofs.YtpghaghmejgjbaaGreatDoor.Tree
