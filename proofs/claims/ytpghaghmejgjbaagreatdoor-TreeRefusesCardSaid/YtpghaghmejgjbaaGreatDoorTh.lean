/- Trees: tree.Right. -/
import Derived.Test.YtpghaghmejgjbaaGreatDoorTg
import Derived.Deep.RegionWith
namespace Go.Proofs.YtpghaghmejgjbaaGreatDoor.Tree
open Go.RowKit
open Path (Bs bs mk bs_mk mk_bs tl_bs splitE splitL MaxC parD parE parN)
set_option linter.unusedSimpArgs false
set_option linter.unusedVariables false

def headOk (l : List Nd) : Bool := match l with
  | [] => false
  | x :: _ => decide (l.length ≤ 60) && (bs x.path == [47]) && x.dir
def okA (l : List Nd) (k : Nat) : Bool := match l[k]? with
  | none => false
  | some x => fitsN x && (match k with
    | 0 => true
    | j + 1 => match l[j]? with
      | none => false
      | some y => ltB (bs y.path) (bs x.path))
def dirBad (l : List Nd) (x : Nd) : Bool := dirE l (bs x.path) != 0
def rightA (l : List Nd) : Bool := headOk l && (List.range l.length).all (okA l)
def rightT (l : List Nd) : Bool := rightA l && !((l.drop 1).any (dirBad l))

theorem rightA_at {l : List Nd} (h : ∀ j, j < l.length → okA l j = true) {k : Nat} {x : Nd} (hx : l[k]? = some x) : fitsN x = true ∧ ∀ j y, k = j + 1 → l[j]? = some y → ltB (bs y.path) (bs x.path) = true := by
  have hk := (List.getElem?_eq_some_iff.1 hx).1
  have := h k hk
  rw [okA, hx] at this
  simp only [Bool.and_eq_true] at this
  refine ⟨this.1, fun j y hj hy => ?_⟩
  subst hj
  simpa [hy] using this.2
theorem rises_of {l : List Nd} (h : ∀ j, j < l.length → okA l j = true) : Rises l := by
  refine List.pairwise_iff_getElem.2 fun i j hi hj hij => ?_
  have key : ∀ d, ∀ hj : i + 1 + d < l.length, ltB (bs l[i].path) (bs (l[i + 1 + d]'hj).path) = true := by
    intro d
    induction d with
    | zero =>
      intro hj
      exact (rightA_at h (k := i + 1) (x := l[i + 1]) (by simp [show i + 1 < l.length by omega])).2 i l[i] rfl (by simp [hi])
    | succ d ih =>
      intro hj
      have h1 := ih (by omega)
      have h2 := (rightA_at h (k := i + 1 + d + 1) (x := l[i + 1 + d + 1]) (by simp [show i + 1 + d + 1 < l.length by omega])).2 (i + 1 + d) (l[i + 1 + d]'(by omega)) rfl (by simp [show i + 1 + d < l.length by omega])
      exact lt_trans _ _ _ h1 h2
  have := key (j - (i + 1)) (by omega)
  have e : i + 1 + (j - (i + 1)) = j := by omega
  simpa only [e] using this
theorem okA_ways {l : List Nd} {k : Nat} {x : Nd} (hx : l[k]? = some x) :
    (fitsN x = false ∧ okA l k = false) ∨ (fitsN x = true ∧ k = 0 ∧ okA l k = true) ∨
    (∃ j y, k = j + 1 ∧ l[j]? = some y ∧ fitsN x = true ∧ ltB (bs y.path) (bs x.path) = true ∧ okA l k = true) ∨
    (∃ j y, k = j + 1 ∧ l[j]? = some y ∧ fitsN x = true ∧ ltB (bs y.path) (bs x.path) = false ∧ okA l k = false) := by
  rw [okA, hx]
  simp only []
  cases hf : fitsN x
  · exact .inl ⟨rfl, rfl⟩
  · cases k with
    | zero => exact .inr (.inl ⟨rfl, rfl, rfl⟩)
    | succ j =>
      have hk := (List.getElem?_eq_some_iff.1 hx).1
      have hy : l[j]? = some l[j] := by simp [show j < l.length by omega]
      simp only [hy]
      cases hl : ltB (bs l[j].path) (bs x.path)
      · exact .inr (.inr (.inr ⟨j, l[j], by trivial, by first | exact hy | trivial, by trivial, by first | exact hl | trivial, by first | rfl | trivial⟩))
      · exact .inr (.inr (.inl ⟨j, l[j], by trivial, by first | exact hy | trivial, by trivial, by first | exact hl | trivial, by first | rfl | trivial⟩))
theorem head_ways (l : List Nd) :
    (((l.length : Int) == 0) = true ∧ headOk l = false) ∨
    (((l.length : Int) == 0) = false ∧ 60 < (l.length : Int) ∧ headOk l = false) ∨
    (∃ x, ((l.length : Int) == 0) = false ∧ ¬ 60 < (l.length : Int) ∧ l[0]? = some x ∧ (x.path.toList != [47]) = true ∧ headOk l = false) ∨
    (∃ x, ((l.length : Int) == 0) = false ∧ ¬ 60 < (l.length : Int) ∧ l[0]? = some x ∧ (x.path.toList != [47]) = false ∧ x.dir = false ∧ headOk l = false) ∨
    (∃ x, ((l.length : Int) == 0) = false ∧ ¬ 60 < (l.length : Int) ∧ l[0]? = some x ∧ (x.path.toList != [47]) = false ∧ x.dir = true ∧ headOk l = true) := by
  cases l with
  | nil => exact .inl ⟨rfl, rfl⟩
  | cons x t =>
    have h0 : (((x :: t).length : Int) == 0) = false := beq_false_of_ne (by rw [List.length_cons]; omega)
    refine .inr ?_
    simp only [headOk]
    rw [show x :: t = x :: t from rfl] at *
    by_cases h60 : 60 < ((x :: t).length : Int)
    · exact .inl ⟨h0, h60, by rw [decide_eq_false (by omega)]; rfl⟩
    · refine .inr ?_
      have hd : decide ((x :: t).length ≤ 60) = true := decide_eq_true (by omega)
      rw [hd]
      cases hp : (x.path.toList != [47])
      · have hp' : (bs x.path == [47]) = true := by rw [← tl_bs]; simpa [bne] using hp
        rw [hp']
        cases hdr : x.dir
        · exact .inr (.inl ⟨x, h0, h60, by first | rfl | trivial, by first | exact hp | trivial, by first | exact hdr | trivial, by first | rfl | trivial⟩)
        · exact .inr (.inr ⟨x, h0, h60, by first | rfl | trivial, by first | exact hp | trivial, by first | exact hdr | trivial, by first | rfl | trivial⟩)
      · have hp' : (bs x.path == [47]) = false := by rw [← tl_bs]; simpa [bne] using hp
        rw [hp']
        exact .inl ⟨x, h0, h60, rfl, hp, rfl⟩

theorem any_dir {w : World} {bt : Nat} {v : Value} {l : List Nd} (hc : w.heap[bt]? = some (.cells #[v] 22 (0, 0))) (h : RdN w v l) (hs : Rises l) (hn : l.length ≤ 8796093022208) (hM : MaxC w) : Picks w 44 (.pointer (some ⟨bt, 0, none⟩)) (dirBad l) (l.drop 1) := by
  intro W hW x hx
  exact r1_calls W bt v l x ((hW.block bt (lt_of_block hc)).trans hc) ((h.bl x (List.mem_of_mem_drop hx)).below hW (Nat.le_refl _)) (h.below hW) hs hn (hM.below hW)
theorem rd_dropN {w : World} {b off n cap : Nat} {l : List Nd} (h : Rd w 5 encN (.slice (some ⟨b, off, none⟩) n cap) l) (hk : 1 ≤ n) : Rd w 5 encN (.slice (some ⟨b, off + 5, none⟩) (n - 1) (cap - 1)) (l.drop 1) := by
  obtain ⟨ao, cap', hv, hc, hcm, hcell⟩ := h
  injection hv with e1 e2 e3
  subst e1; subst e3; subst e2
  refine ⟨_, _, by rw [List.length_drop], by rw [List.length_drop]; omega, by omega, fun k x hx => ?_⟩
  rw [List.getElem?_drop] at hx
  obtain ⟨b', off', hb, hlt, hcl⟩ := hcell _ x hx
  injection hb with hb
  injection hb with e1 e2
  subst e1; subst e2
  refine ⟨b, off + 5, rfl, hlt, fun j u hu => ?_⟩
  have := hcl j u hu
  rw [show off + (1 + k) * 5 + j = off + 5 + k * 5 + j by omega] at this
  exact this
end Go.Proofs.YtpghaghmejgjbaaGreatDoor.Tree
