/- Leases: slices.IndexFunc, slices.DeleteFunc under lease.Drop's own choice. -/
import Derived.Test.YtdkebkalcelgpaaLi
import Derived.Test.YtdkebkalcelgpaaLj
namespace Go.Proofs.Ytdkebkalcelgpaa.Lease
open Go.RowKit

def isC (ticks : Int) (x : Le) : Bool := x.c == ticks
def isNot (ticks : Int) (x : Le) : Bool := !isC ticks x
theorem choice_calls (w : World) (bt : Nat) (ticks : Int) (x : Le) (hc : w.heap[bt]? = some (.cells #[.int .i64 ticks] 3 (0, 0))) :
    Calls Try.prog 49 #[.agg #[.int .i64 x.c, .int .i64 x.u], .pointer (some ⟨bt, 0, none⟩)] w fun e w' => e = .returned (.bool (isC ticks x)) ∧ Below w.heap.size w w' := by
  have hcc := cell_of_one hc
  have hbl := lt_of_block hc
  go_enter Try.func49, Try.ntmps49
  go_wp2
  go_ret
  exact ⟨rfl, (Below.refl _ _).alloc (Nat.le_refl _) _⟩

theorem own_cells {w : World} {g cap : Nat} {l : List Le} (h : w.ownsRow 0 55 2 (.slice (some ⟨g, 0, none⟩) l.length cap) l.length (flatL l)) {k : Nat} {x : Le} (hx : l[k]? = some x) :
    w.cell? ⟨g, k * 2, none⟩ = some (.int .i64 x.c) ∧ w.cell? ⟨g, k * 2 + 1, none⟩ = some (.int .i64 x.u) := by
  have hk := (List.getElem?_eq_some_iff.1 hx).1
  have e0 := flat_get encL 2 encL_len l k 0 x hx (by decide)
  have e1 := flat_get encL 2 encL_len l k 1 x hx (by decide)
  exact ⟨by rw [h.cellAt _ (by omega)]; exact e0, by rw [h.cellAt _ (by omega)]; exact e1⟩
def idxA (p : Le → Bool) (l : List Le) : Int := if l.any p then (l.findIdx p : Int) else -1

theorem take_any_succ {p : Le → Bool} {l : List Le} {k : Nat} {x : Le} (hx : l[k]? = some x) (h : (l.take k).any p = false) (hp : p x = false) : (l.take (k + 1)).any p = false := by
  rw [List.take_add_one, hx]
  simp only [Option.toList_some, List.any_append, h, List.any_cons, hp, List.any_nil, Bool.or_self]
theorem idxA_none {p : Le → Bool} {l : List Le} {k : Nat} (hk : l.length ≤ k) (h : (l.take k).any p = false) : idxA p l = -1 := by
  rw [List.take_of_length_le hk] at h
  simp [idxA, h]
theorem idxA_hit {p : Le → Bool} {l : List Le} {k : Nat} {x : Le} (hx : l[k]? = some x) (h : (l.take k).any p = false) (hp : p x = true) : idxA p l = k := by
  have hk := (List.getElem?_eq_some_iff.1 hx).1
  have ha : l.any p = true := List.any_eq_true.2 ⟨x, List.mem_of_getElem? hx, hp⟩
  have hf : l.findIdx p = k := by
    rw [List.findIdx_eq hk]
    refine ⟨by rw [(List.getElem?_eq_some_iff.1 hx).2]; exact hp, fun j hj => ?_⟩
    have := List.any_eq_false.1 h (l[j]) (by rw [List.mem_take_iff_getElem]; exact ⟨j, by omega, rfl⟩)
    simpa using this
  simp [idxA, ha, hf]

theorem index_calls (w : World) (bt : Nat) (ticks : Int) (hc : w.heap[bt]? = some (.cells #[.int .i64 ticks] 3 (0, 0))) (l : List Le) (v : Value) (hown : w.ownsRow 0 55 2 v l.length (flatL l)) (hn : l.length ≤ 1000000) :
    Calls Try.prog 57 #[v, .func (.func 49) #[] #[.pointer (some ⟨bt, 0, none⟩)]] w fun e w' => e = .returned (.int .i64 (idxA (isC ticks) l)) ∧ Below w.heap.size w w' := by
  have hbl := lt_of_block hc
  obtain ⟨ao, cap, rfl, hcells⟩ : ∃ ao cap, v = .slice ao l.length cap ∧ ∀ W, Below w.heap.size w W → ∀ k x, l[k]? = some x → ∃ g, ao = some ⟨g, 0, none⟩ ∧ W.cell? ⟨g, k * 2, none⟩ = some (.int .i64 x.c) ∧ W.cell? ⟨g, k * 2 + 1, none⟩ = some (.int .i64 x.u) := by
    rcases hown.2 with ⟨rfl, h0⟩ | ⟨g, cap, cur, rfl, _, hg, _⟩
    · refine ⟨none, 0, by rw [h0], fun W _ k x hx => ?_⟩
      have := (List.getElem?_eq_some_iff.1 hx).1
      omega
    · refine ⟨_, cap, rfl, fun W hW k x hx => ⟨g, rfl, ?_⟩⟩
      have := own_cells (below_ownsRow hW hown (fun g' h => by simp [Value.ownBlock] at h; subst h; exact lt_of_block hg)) hx
      exact this
  go_enter Try.func57, Try.ntmps57
  go_wp2
  go_loopw [8] (fun i wr => ∃ k : Nat, k ≤ l.length ∧ i = .int .i64 k ∧ Below w.heap.size w wr ∧ (l.take k).any (isC ticks) = false) (fun i _ => l.length - (intOf i).toNat)
  case atStart => exact ⟨0, Nat.zero_le _, rfl, Below.refl _ _, rfl⟩
  case round =>
    obtain ⟨k, hk, rfl, hbel, hnone⟩ := hrel
    have Hnone := Lib.hid hnone; clear hnone
    by_cases hlt : k < l.length
    · obtain ⟨x, hx⟩ : ∃ x, l[k]? = some x := ⟨l[k], by simp [hlt]⟩
      obtain ⟨g, rfl, h0, h1⟩ := hcells wr hbel k x hx
      have hct : wr.heap[bt]? = some (.cells #[.int .i64 ticks] 3 (0, 0)) := (hbel.block bt hbl).trans hc
      clear hcells hc
      have Hx := Lib.hid hx; clear hx
      have Hct := Lib.hid hct; clear hct
      go_wp2_with (go_at_call 49; refine (choice_calls _ bt ticks x Hct.out).mono ?_; rintro e w1 ⟨rfl, hb1⟩)
      · go_ret
        have hp : isC ticks x = true := by assumption
        exact ⟨ret_int (idxA_hit Hx.out Hnone.out hp).symm, hbel.trans (hb1.mono hbel.size)⟩
      · have hp : isC ticks x = false := by assumption
        go_roundw
        case rel => exact ⟨k + 1, by omega, by go_num, hbel.trans (hb1.mono hbel.size), take_any_succ Hx.out Hnone.out hp⟩
        case measure => simp [intOf]; omega
    · go_wp2
      go_ret
      exact ⟨ret_int (idxA_none (by omega) Hnone.out).symm, hbel⟩
theorem flatL_set (m : List Le) (i : Nat) (x : Le) : (((flatL m).set (i * 2) (.int .i64 x.c)).set (i * 2 + 1) (.int .i64 x.u)) = flatL (m.set i x) := by
  refine flat_ext encL 2 encL_len (by decide) _ _ (by simp [flatL_len]) fun i' j y hy hj => ?_
  rw [List.getElem?_set] at hy
  by_cases he : i = i'
  · subst he
    have hlt : i < m.length := by by_cases h : i < m.length <;> simp [h] at hy ⊢
    simp [hlt] at hy
    subst hy
    have hl := flatL_len m
    match j, hj with
    | 0, _ => simp [List.getElem?_set, encL, hl]; omega
    | 1, _ => simp [List.getElem?_set, encL, hl]; omega
  · simp [he] at hy
    have e := flat_get encL 2 encL_len m i' j y hy hj
    rw [← e]
    rw [List.getElem?_set_ne (by omega), List.getElem?_set_ne (by omega)]
    rfl
theorem own_set {w : World} {g n cap : Nat} {m : List Le} (h : w.ownsRow 0 55 2 (.slice (some ⟨g, 0, none⟩) n cap) n (flatL m)) (i : Nat) (x : Le) :
    ((w.setCell ⟨g, i * 2, none⟩ (.int .i64 x.c)).setCell ⟨g, i * 2 + 1, none⟩ (.int .i64 x.u)).ownsRow 0 55 2 (.slice (some ⟨g, 0, none⟩) n cap) n (flatL (m.set i x)) := by
  have h1 := (h.stored (i * 2) (.int .i64 x.c)).1
  have h2 := (h1.stored (i * 2 + 1) (.int .i64 x.u)).1
  rw [flatL_set] at h2
  exact h2
/-- Where the loop stands: the first i of the row are those of the first j that stay; from j on nothing has changed. -/
structure At (keep : Le → Bool) (l m : List Le) (i j : Nat) : Prop where
  len : m.length = l.length
  jl : j ≤ l.length
  head : m.take i = (l.take j).filter keep
  tail : m.drop j = l.drop j
  ij : i ≤ j

theorem At.cnt {keep : Le → Bool} {l m : List Le} {i j : Nat} (h : At keep l m i j) : ((l.take j).filter keep).length = i := by
  rw [← h.head, List.length_take]
  have := h.len; have := h.jl; have := h.ij
  omega
theorem At.drop {keep : Le → Bool} {l m : List Le} {i j : Nat} {x : Le} (h : At keep l m i j) (hx : l[j]? = some x) (hk : keep x = false) : At keep l m i (j + 1) := by
  have hj := (List.getElem?_eq_some_iff.1 hx).1
  refine ⟨h.len, hj, ?_, ?_, by have := h.ij; omega⟩
  · rw [h.head, List.take_add_one, hx]; simp [hk]
  · have := congrArg List.tail h.tail
    simpa using this
theorem At.keep {keep : Le → Bool} {l m : List Le} {i j : Nat} {x : Le} (h : At keep l m i j) (hx : l[j]? = some x) (hk : keep x = true) : At keep l (m.set i x) (i + 1) (j + 1) := by
  have hj := (List.getElem?_eq_some_iff.1 hx).1
  have hij := h.ij
  have hl := h.len
  refine ⟨by simp [hl], hj, ?_, ?_, by omega⟩
  · rw [List.take_add_one, List.take_set_of_le (by omega), h.head, List.take_add_one, hx, List.getElem?_set_self (by omega)]
    simp [hk]
  · rw [List.drop_set_of_lt (by omega)]
    have := congrArg List.tail h.tail
    simpa using this
theorem At.here {keep : Le → Bool} {l m : List Le} {i j : Nat} {x : Le} (h : At keep l m i j) (hx : l[j]? = some x) : m[j]? = some x := by
  have := congrArg (fun q => q[0]?) h.tail
  simpa [hx] using this
theorem At.start {keep : Le → Bool} {l : List Le} {k : Nat} {x : Le} (hx : l[k]? = some x) (h : (l.take k).any (fun x => !keep x) = false) (hp : keep x = false) : At keep l l k (k + 1) := by
  have hj := (List.getElem?_eq_some_iff.1 hx).1
  refine ⟨rfl, hj, ?_, rfl, by omega⟩
  rw [List.take_add_one, hx]
  have : (l.take k).filter keep = l.take k := List.filter_eq_self.2 fun y hy => by
    have := List.any_eq_false.1 h y hy
    simpa using this
  simp [hp, this]


theorem idxA_neg {p : Le → Bool} {l : List Le} (h : idxA p l = -1) : l.any p = false := by
  unfold idxA at h
  by_cases ha : l.any p = true
  · rw [if_pos ha] at h; omega
  · simpa using ha
theorem idxA_pos {p : Le → Bool} {l : List Le} (h : ¬ idxA p l = -1) : ∃ (k : Nat) (x : Le), l[k]? = some x ∧ idxA p l = (k : Int) ∧ (l.take k).any p = false ∧ p x = true := by
  unfold idxA at h ⊢
  by_cases ha : l.any p = true
  · rw [if_pos ha]
    have hlt : l.findIdx p < l.length := List.findIdx_lt_length_of_exists (List.any_eq_true.1 ha)
    refine ⟨l.findIdx p, l[l.findIdx p], by simp [hlt], rfl, ?_, List.findIdx_getElem (w := hlt)⟩
    rw [List.any_eq_false]
    intro y hy
    rw [List.mem_take_iff_getElem] at hy
    obtain ⟨j, hj, rfl⟩ := hy
    simpa using List.not_of_lt_findIdx (p := p) (xs := l) (i := j) (by omega)
  · rw [if_neg ha] at h; exact absurd rfl h

theorem delete_close {w3 : World} {keep : Le → Bool} {l m : List Le} {i g cap : Nat} {cur cur3 : Array Value} (hcnt : (l.filter keep).length = i) (hhead : m.take i = l.filter keep) (hlm : m.length = l.length) (hij : i ≤ l.length) (hnc : l.length ≤ cap)
    (hg3 : w3.heap[g]? = some (.cells cur3 55 (0, 0))) (hsz : cur3.size = cap * 2) (htk3 : cur3.toList.take (i * 2) = cur.toList.take (i * 2)) (htk : cur.toList.take (l.length * 2) = flatL m) (hcm : cap ≤ maxLen) :
    w3.ownsRow 0 55 2 (.slice (some ⟨g, 0, none⟩) i cap) (l.filter keep).length (flatL (l.filter keep)) := by
  rw [hcnt]
  refine ⟨by rw [flatL_len, hcnt], .inr ⟨g, cap, cur3, rfl, Nat.zero_le _, hg3, by omega, hcm, hsz, ?_⟩⟩
  rw [htk3]
  have e : (cur.toList.take (l.length * 2)).take (i * 2) = cur.toList.take (i * 2) := by rw [List.take_take]; congr 1; omega
  rw [← e, htk, ← hhead]
  have hs : flatL m = flatL (m.take i) ++ flatL (m.drop i) := by rw [flatL, flatL, flatL, ← List.flatMap_append, List.take_append_drop]
  rw [hs, List.take_append_of_le_length (by rw [flatL_len, List.length_take]; omega), List.take_of_length_le (by rw [flatL_len, List.length_take]; omega)]

theorem delete_calls (w : World) (bt : Nat) (ticks : Int) (hc : w.heap[bt]? = some (.cells #[.int .i64 ticks] 3 (0, 0))) (l : List Le) (v : Value) (hown : w.ownsRow 0 55 2 v l.length (flatL l)) (hn : l.length ≤ 1000000) :
    Calls Try.prog 48 #[v, .func (.func 49) #[] #[.pointer (some ⟨bt, 0, none⟩)]] w fun e w' =>
      ∃ v', e = .returned v' ∧ w'.ownsRow 0 55 2 v' (l.filter (isNot ticks)).length (flatL (l.filter (isNot ticks))) ∧ v'.ownBlock = v.ownBlock ∧ Upd (fun k => v.ownBlock = some k) w w' := by
  by_cases hno : idxA (isC ticks) l = -1
  · have hall : l.filter (isNot ticks) = l := List.filter_eq_self.2 fun y hy => by
      have := List.any_eq_false.1 (idxA_neg hno) y hy
      simpa [isNot] using this
    rw [hall]
    go_enter Try.func48, Try.ntmps48
    go_wp2_with (go_at_call 57; refine (index_calls _ bt ticks hc l _ hown hn).mono ?_; rintro e w1 ⟨rfl, hb1⟩)
    go_ret
    exact ⟨v, rfl, below_ownsRow hb1 hown (fun g h => (hown.lt g h).2), rfl, Upd.of_below hb1 _⟩
  · obtain ⟨k0, x0, hx0, he, hnone, hp0⟩ := idxA_pos hno
    have hk0 := (List.getElem?_eq_some_iff.1 hx0).1
    obtain ⟨g, cap, cur, rfl, _, hg, hnc, hcm, hcs, htk⟩ := hown.2.resolve_left (fun h => by omega)
    have hgl := lt_of_block hg
    have hbl := lt_of_block hc
    have hgb : g ≠ bt := fun e => by subst e; rw [hc] at hg; simp at hg
    have hS := At.start (keep := isNot ticks) hx0 (by simpa [isNot] using hnone) (by simp [isNot, hp0])
    have hidx := index_calls w bt ticks hc l _ hown hn
    rw [he] at hidx
    unfold maxLen at hcm
    clear he hno hnone hp0 hcs htk
    have hkm : ((k0 : Int) == -1) = false := by simp
    have HC := Lib.hid hc; clear hc
    have Hg := Lib.hid hg; clear hg
    have Hx0 := Lib.hid hx0; clear hx0
    go_enter Try.func48, Try.ntmps48
    go_wp2_with (go_at_call 57; refine hidx.mono ?_; rintro e w1 ⟨rfl, hb1⟩)
    go_loopw [5, 6] (fun vi vj wr => ∃ (i j : Nat) (m : List Le), vi = .int .i64 i ∧ vj = .int .i64 j ∧ At (isNot ticks) l m i j ∧ wr.ownsRow 0 55 2 (.slice (some ⟨g, 0, none⟩) l.length cap) l.length (flatL m) ∧ Upd (fun k => k = g) w wr) (fun _ vj _ => l.length - (intOf vj).toNat)
    case atStart => exact ⟨k0, k0 + 1, l, rfl, by go_num, hS, below_ownsRow hb1 hown (fun g' h => by simp [Value.ownBlock] at h; omega), Upd.of_below hb1 _⟩
    case round =>
      obtain ⟨i, j, m, rfl, rfl, hat, hown', hupd⟩ := hrel
      have hlm := hat.len
      have hjl := hat.jl
      have hij := hat.ij
      have hsz := hupd.size
      by_cases hlt : j < l.length
      · obtain ⟨x, hx⟩ : ∃ x, l[j]? = some x := ⟨l[j], by simp [hlt]⟩
        obtain ⟨y, hy⟩ : ∃ y, m[i]? = some y := ⟨m[i]'(by omega), by simp [show i < m.length by omega]⟩
        obtain ⟨c0, c1⟩ := own_cells (l := m) (cap := cap) (hlm ▸ hown') (hat.here hx)
        obtain ⟨d0, d1⟩ := own_cells (l := m) (cap := cap) (hlm ▸ hown') hy
        have f0 := hown'.frozenAt (i * 2)
        have f1 := hown'.frozenAt (i * 2 + 1)
        have hct : wr.heap[bt]? = some (.cells #[.int .i64 ticks] 3 (0, 0)) := hupd.block_eq HC.out (by simpa using fun h => hgb h.symm)
        have hg0 : g < wr.heap.size := by omega
        have hg1 : g < wr.heap.size + 1 := by omega
        have Hx := Lib.hid hx; clear hx
        have Hy := Lib.hid hy; clear hy
        have Hct := Lib.hid hct; clear hct
        have Hlm := Lib.hid hlm; clear hlm
        go_wp2_with (go_at_call 49; refine (choice_calls _ bt ticks x (by rw [heap_alloc_old _ _ (by omega)]; exact Hct.out)).mono ?_; rintro e w2 ⟨rfl, hb2⟩; obtain ⟨hcb, hfb⟩ := bcell hb2)
        · have hp : (!isC ticks x) = true := by assumption
          go_roundw
          case rel => exact ⟨i + 1, j + 1, m.set i x, by go_num, by go_num, hat.keep Hx.out hp, own_set (below_ownsRow hb2 (hown'.alloc _) (fun g' h => by simp [Value.ownBlock] at h; subst h; simpa using hg1)) i x,
            (((hupd.alloc _).trans (Upd.of_below hb2 _)).setCell (.inl rfl) _).setCell (.inl rfl) _⟩
          case measure => simp [intOf]; omega
        · have hp : (!isC ticks x) = false := by assumption
          go_roundw
          case rel => exact ⟨i, j + 1, m, rfl, by go_num, hat.drop Hx.out hp, below_ownsRow hb2 (hown'.alloc _) (fun g' h => by simp [Value.ownBlock] at h; subst h; simpa using hg1), (hupd.alloc _).trans (Upd.of_below hb2 _)⟩
          case measure => simp [intOf]; omega
      · obtain rfl : j = l.length := by omega
        have hcnt := hat.cnt
        have hhead := hat.head
        rw [List.take_length] at hcnt hhead
        have Hcnt := Lib.hid hcnt; clear hcnt
        have Hhead := Lib.hid hhead; clear hhead
        have Hlm := Lib.hid hlm; clear hlm
        obtain ⟨g', cap', cur', hv, _, hg', hnc', hcm', hcs', htk'⟩ := hown'.2.resolve_left (fun h => by simp at h)
        simp only [Value.slice.injEq, Option.some.injEq, Addr.mk.injEq, and_true, true_and] at hv
        obtain ⟨rfl, rfl⟩ := hv
        have Hg' := Lib.hid hg'; clear hg'
        have Hcs := Lib.hid hcs'; clear hcs'
        have Htk := Lib.hid htk'; clear htk'
        by_cases hin : i < l.length
        · have hci : ¬ (cap = i) := by omega
          go_wp2_with (with_reducible refine etLe.wpList_clear (g := g) (off := i * 2) (m := l.length - i) (cur := cur') Hg'.out (fun _ => rfl) (by rw [Hcs.out]; omega) rfl (.tmp 38) rfl rfl ?_; intro w3 cur3 hg3 hsz3 htk3 hgrow3)
          go_ret
          refine ⟨_, rfl, delete_close (keep := isNot ticks) Hcnt.out Hhead.out Hlm.out hij hnc hg3 (hsz3.trans Hcs.out) htk3 Htk.out (by unfold maxLen; omega), rfl, (hupd.grown hgrow3 fun k hk => .inl (by simpa using hk.symm)).mono fun k _ hk => by simp [Value.ownBlock, hk]⟩
        · have Hil : Hid (i = l.length) := Lib.hid (by omega)
          have hle : i ≤ l.length := hij
          clear hin hlt hij hjl
          by_cases hci : cap = i
          · have hci' : (cap = i) = True := eq_true hci
            have Hci := Lib.hid hci; clear hci
            go_wp2_with (with_reducible refine etLe.wpList_clear (g := g) (off := i * 2) (m := l.length - i) (cur := cur') Hg'.out (fun h => by have := Hil.out; omega) (by rw [Hcs.out]; have := Hci.out; omega) rfl (.tmp 38) rfl rfl ?_; intro w3 cur3 hg3 hsz3 htk3 hgrow3)
            go_ret
            refine ⟨_, rfl, delete_close (keep := isNot ticks) Hcnt.out Hhead.out Hlm.out hle hnc hg3 (hsz3.trans Hcs.out) htk3 Htk.out (by unfold maxLen; omega), rfl, (hupd.grown hgrow3 fun k hk => .inl (by simpa using hk.symm)).mono fun k _ hk => by simp [Value.ownBlock, hk]⟩
          · go_wp2_with (with_reducible refine etLe.wpList_clear (g := g) (off := i * 2) (m := l.length - i) (cur := cur') Hg'.out (fun h => by have := Hil.out; omega) (by rw [Hcs.out]; omega) rfl (.tmp 38) rfl rfl ?_; intro w3 cur3 hg3 hsz3 htk3 hgrow3)
            go_ret
            refine ⟨_, rfl, delete_close (keep := isNot ticks) Hcnt.out Hhead.out Hlm.out hle hnc hg3 (hsz3.trans Hcs.out) htk3 Htk.out (by unfold maxLen; omega), rfl, (hupd.grown hgrow3 fun k hk => .inl (by simpa using hk.symm)).mono fun k _ hk => by simp [Value.ownBlock, hk]⟩
end Go.Proofs.Ytdkebkalcelgpaa.Lease
