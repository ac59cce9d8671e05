/- Paths, in plain words: names, cutting at each /, joining; no program in sight. -/
import Derived.Lib.SplitLaws
import Derived.Lib.Join
namespace Go.Proofs.YtpghaghmejgjbaaGreatDoor.Path
open Go
set_option linter.unusedSimpArgs false
set_option linter.unusedVariables false

abbrev Bs := List UInt8
def bs (s : ByteArray) : Bs := s.data.toList
def mk (l : Bs) : ByteArray := ⟨l.toArray⟩
theorem bs_mk (l : Bs) : bs (mk l) = l := by simp [bs, mk]
theorem mk_bs (s : ByteArray) : mk (bs s) = s := by simp [bs, mk]
theorem bs_inj {s t : ByteArray} (h : bs s = bs t) : s = t := by
  have := congrArg mk h
  rwa [mk_bs, mk_bs] at this
theorem mk_inj {s t : Bs} (h : mk s = mk t) : s = t := by
  have := congrArg bs h
  rwa [bs_mk, bs_mk] at this
theorem bs_len (s : ByteArray) : (bs s).length = s.size := Array.length_toList
theorem mk_size (l : Bs) : (mk l).size = l.length := by rw [← bs_len, bs_mk]

def okB (b : UInt8) : Bool := (decide (97 ≤ b) && decide (b ≤ 122)) || (decide (48 ≤ b) && decide (b ≤ 57)) || b == 46 || b == 95 || b == 45
def nameL (s : Bs) : Bool := decide (1 ≤ s.length) && decide (s.length ≤ 20) && s != [46] && s != [46, 46] && s.all okB
theorem name_ne {s : Bs} (h : nameL s = true) : s ≠ [] := by
  rintro rfl
  simp [nameL] at h
theorem name_len {s : Bs} (h : nameL s = true) : s.length ≤ 20 := by
  simp only [nameL, Bool.and_eq_true, decide_eq_true_eq] at h
  exact h.1.1.1.2
theorem name_slash {s : Bs} (h : nameL s = true) : (47 : UInt8) ∉ s := by
  intro hm
  simp only [nameL, Bool.and_eq_true] at h
  have := List.all_eq_true.1 h.2 _ hm
  simp [okB] at this

/-- The pieces between the slashes. -/
def cutL : Bs → List Bs
  | [] => [[]]
  | b :: t => if b = 47 then [] :: cutL t else match cutL t with
    | [] => [[b]]
    | h :: r => (b :: h) :: r
theorem cut_ne (s : Bs) : cutL s ≠ [] := by
  cases s with
  | nil => simp [cutL]
  | cons b t =>
    rw [cutL]
    split
    · simp
    · split <;> simp
theorem cut_slash (t : Bs) : cutL (47 :: t) = [] :: cutL t := by rw [cutL, if_pos rfl]
theorem cut_other {b : UInt8} {t : Bs} (hb : b ≠ 47) {h : Bs} {r : List Bs} (ht : cutL t = h :: r) : cutL (b :: t) = (b :: h) :: r := by rw [cutL, if_neg hb, ht]
theorem cut_plain : ∀ {x : Bs}, (47 : UInt8) ∉ x → cutL x = [x]
  | [], _ => rfl
  | b :: t, h => by
    simp only [List.mem_cons, not_or] at h
    exact cut_other (fun e => h.1 e.symm) (cut_plain h.2)
theorem cut_append : ∀ {x : Bs} (t : Bs), (47 : UInt8) ∉ x → cutL (x ++ 47 :: t) = x :: cutL t
  | [], t, _ => cut_slash t
  | b :: x, t, h => by
    simp only [List.mem_cons, not_or] at h
    exact cut_other (fun e => h.1 e.symm) (cut_append t h.2)

theorem index_miss_hit (b : UInt8) (t : Bs) (hb : b ≠ 47) : Lib.index (b :: t) [47] = if Lib.index t [47] == -1 then -1 else Lib.index t [47] + 1 := by
  rw [Lib.index, if_neg (by simp [List.isPrefixOf, Ne.symm hb])]
theorem index_hit (t : Bs) : Lib.index (47 :: t) [47] = 0 := by
  rw [Lib.index, if_pos (by simp [List.isPrefixOf])]
theorem index_ge (t : Bs) : Lib.index t [47] = -1 ∨ 0 ≤ Lib.index t [47] := by
  induction t with
  | nil => left; rfl
  | cons b t ih =>
    by_cases hb : b = 47
    · subst hb; right; rw [index_hit]; omega
    · rw [index_miss_hit b t hb]
      rcases ih with h | h
      · left; rw [h]; rfl
      · right
        split
        · rename_i e; have := beq_iff_eq.1 e; omega
        · omega
theorem split_cut : ∀ s : Bs, Lib.splitK [47] 0 (s.count 47) s = cutL s
  | [] => rfl
  | b :: t => by
    have ih := split_cut t
    by_cases hb : b = 47
    · subst hb
      rw [List.count_cons_self, Lib.splitK, index_hit, if_neg (by decide), cut_slash]
      simp [ih]
    · rw [List.count_cons_of_ne hb]
      cases hk : t.count 47 with
      | zero =>
        rw [hk] at ih
        rw [Lib.splitK] at ih ⊢
        rw [cut_other hb ih.symm]
      | succ k =>
        rw [hk] at ih
        rw [Lib.splitK] at ih ⊢
        rw [index_miss_hit b t hb]
        rcases index_ge t with h | h
        · have e : (if (Lib.index t [47] == -1) = true then (-1 : Int) else Lib.index t [47] + 1) = -1 := by rw [h]; rfl
          rw [e, if_pos (by decide : ((-1 : Int) == -1) = true)]
          rw [h, if_pos (by decide : ((-1 : Int) == -1) = true)] at ih
          rw [cut_other hb ih.symm]
        · have hne : ¬ (Lib.index t [47] == -1) = true := fun e => by have := beq_iff_eq.1 e; omega
          rw [if_neg hne] at ih ⊢
          have hne2 : ¬ (Lib.index t [47] + 1 == -1) = true := fun e => by have := beq_iff_eq.1 e; omega
          rw [if_neg hne2, cut_other hb ih.symm]
          have e : (Lib.index t [47] + 1).toNat = (Lib.index t [47]).toNat + 1 := by omega
          rw [e]
          simp only [Nat.add_zero, List.length_cons, List.length_nil, Nat.zero_add, List.take_succ_cons, List.drop_succ_cons]

/-- The path of names. -/
def joinP (ns : List Bs) : Bs := 47 :: [(47 : UInt8)].intercalate ns
theorem inter_nil : [(47 : UInt8)].intercalate [] = [] := rfl
theorem inter_one (x : Bs) : [(47 : UInt8)].intercalate [x] = x := by simp [List.intercalate]
theorem inter_cons (x y : Bs) (r : List Bs) : [(47 : UInt8)].intercalate (x :: y :: r) = x ++ 47 :: [(47 : UInt8)].intercalate (y :: r) := by simp [List.intercalate]
theorem join_nil : joinP [] = [47] := rfl
theorem join_snoc (ns : List Bs) (n : Bs) (h : ns ≠ []) : joinP (ns ++ [n]) = joinP ns ++ 47 :: n := by
  have key : ∀ ns : List Bs, ns ≠ [] → [(47 : UInt8)].intercalate (ns ++ [n]) = [(47 : UInt8)].intercalate ns ++ 47 :: n := by
    intro ns
    induction ns with
    | nil => intro h; exact absurd rfl h
    | cons x r ih =>
      intro _
      cases r with
      | nil => rw [List.singleton_append, inter_cons, inter_one, inter_one]
      | cons y r => rw [List.cons_append, List.cons_append, inter_cons, ← List.cons_append, ih (by simp), inter_cons, List.append_assoc]; rfl
  rw [joinP, joinP, key ns h, List.cons_append]
theorem cut_join : ∀ {ns : List Bs}, ns ≠ [] → (∀ n ∈ ns, (47 : UInt8) ∉ n) → cutL ([(47 : UInt8)].intercalate ns) = ns
  | [], h, _ => absurd rfl h
  | [x], _, hs => by rw [inter_one, cut_plain (hs x (by simp))]
  | x :: y :: r, _, hs => by
    rw [inter_cons, cut_append _ (hs x (by simp)), cut_join (by simp) (fun n hn => hs n (by simp at hn ⊢; right; exact hn))]
theorem join_cut : ∀ s : Bs, [(47 : UInt8)].intercalate (cutL s) = s
  | [] => rfl
  | b :: t => by
    have ih := join_cut t
    by_cases hb : b = 47
    · subst hb
      rw [cut_slash]
      cases h : cutL t with
      | nil => exact absurd h (cut_ne t)
      | cons x r => rw [inter_cons, ← h, ih]; rfl
    · cases h : cutL t with
      | nil => exact absurd h (cut_ne t)
      | cons x r =>
        rw [cut_other hb h]
        rw [h] at ih
        cases r with
        | nil => rw [inter_one] at ih ⊢; rw [ih]
        | cons y r => rw [inter_cons] at ih ⊢; rw [List.cons_append, ih]

def splitE (p : Bs) : Int :=
  if 120 < p.length then 4 else if p = [47] then 0 else
    if p.head? = some 47 then (if (cutL p.tail).all nameL = true then (if 6 < (cutL p.tail).length then 4 else 0) else 1) else 1
def splitL (p : Bs) : List Bs := if splitE p = 0 then (if p = [47] then [] else cutL p.tail) else []
def joinE (ns : List Bs) : Int := if ns.all nameL = true then (if 6 < ns.length ∨ 120 < (joinP ns).length then 4 else 0) else 1
def joinS (ns : List Bs) : Bs := if joinE ns = 0 then joinP ns else []

theorem joinE_ok {ns : List Bs} : joinE ns = 0 ↔ (∀ n ∈ ns, nameL n = true) ∧ ns.length ≤ 6 ∧ (joinP ns).length ≤ 120 := by
  rw [joinE]
  split
  · rename_i h
    rw [List.all_eq_true] at h
    split
    · constructor
      · intro e; cases e
      · rintro ⟨_, h1, h2⟩; omega
    · exact ⟨fun _ => ⟨h, by omega, by omega⟩, fun _ => rfl⟩
  · rename_i h
    rw [List.all_eq_true] at h
    exact ⟨fun e => (by cases e), fun h' => absurd h'.1 h⟩
theorem split_ok {p : Bs} (h : splitE p = 0) : joinE (splitL p) = 0 ∧ joinP (splitL p) = p := by
  rw [splitL, if_pos h]
  rw [splitE] at h
  split at h
  · cases h
  · rename_i hl
    split at h
    · rename_i e
      subst e
      rw [if_pos rfl]
      exact ⟨by decide, rfl⟩
    · rename_i e
      rw [if_neg e]
      split at h
      · rename_i hh
        obtain ⟨t, rfl⟩ : ∃ t, p = 47 :: t := by
          cases p with
          | nil => cases hh
          | cons b t => simp at hh; exact ⟨t, by rw [hh]⟩
        rw [List.tail_cons] at h ⊢
        split at h
        · rename_i ha
          split at h
          · cases h
          · rename_i h6
            have hj : joinP (cutL t) = 47 :: t := by rw [joinP, join_cut]
            exact ⟨joinE_ok.2 ⟨List.all_eq_true.1 ha, by omega, by rw [hj]; omega⟩, hj⟩
        · cases h
      · cases h
theorem join_ok {ns : List Bs} (h : joinE ns = 0) : splitE (joinP ns) = 0 ∧ splitL (joinP ns) = ns := by
  obtain ⟨h1, h2, h3⟩ := joinE_ok.1 h
  cases hns : ns with
  | nil => exact ⟨by decide, by decide⟩
  | cons x r =>
    rw [← hns]
    have hne : ns ≠ [] := by rw [hns]; simp
    have hc : cutL ([(47 : UInt8)].intercalate ns) = ns := cut_join hne fun n hn => name_slash (h1 n hn)
    have he : joinP ns ≠ [47] := by
      intro e
      rw [joinP] at e
      simp only [List.cons.injEq, true_and] at e
      rw [e] at hc
      rw [cutL] at hc
      have := name_ne (h1 [] (by rw [← hc]; simp))
      exact this rfl
    have hE : splitE (joinP ns) = 0 := by
      have ht : (joinP ns).tail = [(47 : UInt8)].intercalate ns := rfl
      have hd : (joinP ns).head? = some 47 := rfl
      rw [splitE, if_neg (by omega), if_neg he, if_pos hd, ht, hc, if_pos (List.all_eq_true.2 h1), if_neg (by omega)]
    have ht : (joinP ns).tail = [(47 : UInt8)].intercalate ns := rfl
    exact ⟨hE, by rw [splitL, if_pos hE, if_neg he, ht, hc]⟩
theorem split_inj {p q : Bs} (hp : splitE p = 0) (hq : splitE q = 0) (h : splitL p = splitL q) : p = q := by
  rw [← (split_ok hp).2, h, (split_ok hq).2]
theorem split_bad {p : Bs} (h : splitE p ≠ 0) : splitL p = [] := if_neg h

def underL (a b : Bs) : Bool := decide (splitE a = 0) && decide (splitE b = 0) && (splitL a).isPrefixOf (splitL b)
def parE (p : Bs) : Int := if splitE p = 0 then (if splitL p = [] then 1 else 0) else splitE p
def parD (p : Bs) : Bs := if parE p = 0 then joinP (splitL p).dropLast else []
def parN (p : Bs) : Bs := if parE p = 0 then (splitL p).getLastD [] else []
def moveN (p a b : Bs) : List Bs := splitL b ++ (splitL p).drop (splitL a).length
def moveOk (p a b : Bs) : Bool := underL a p && decide (splitE b = 0)
def moveE (p a b : Bs) : Int := if moveOk p a b = true then joinE (moveN p a b) else 1
def moveS (p a b : Bs) : Bs := if moveOk p a b = true then joinS (moveN p a b) else []
end Go.Proofs.YtpghaghmejgjbaaGreatDoor.Path
