/- slices.DeleteFunc at aged messages, under the mail's own choice. -/
import Derived.Test.YtdkebkalcelgpaaMb
namespace Go.Proofs.Ytdkebkalcelgpaa.Mail
open Go.RowKit

theorem flatA_set (m : List Ag) (i : Nat) (x : Ag) : ((((flatA m).set (i * 3) (.int .i64 x.to)).set (i * 3 + 1) (.string x.data)).set (i * 3 + 2) (.int .i64 x.age)) = flatA (m.set i x) := by
  refine flat_ext encA 3 encA_len (by decide) _ _ (by simp [flatA_len]) fun i' j y hy hj => ?_
  rw [List.getElem?_set] at hy
  by_cases he : i = i'
  · subst he
    have hlt : i < m.length := by by_cases h : i < m.length <;> simp [h] at hy ⊢
    simp [hlt] at hy
    subst hy
    have hl := flatA_len m
    match j, hj with
    | 0, _ => simp [List.getElem?_set, encA, hl]; omega
    | 1, _ => simp [List.getElem?_set, encA, hl]; omega
    | 2, _ => simp [List.getElem?_set, encA, hl]; omega
  · simp [he] at hy
    have e := flat_get encA 3 encA_len m i' j y hy hj
    rw [← e]
    rw [List.getElem?_set_ne (by omega), List.getElem?_set_ne (by omega), List.getElem?_set_ne (by omega)]
    rfl

theorem own_set {w : World} {g n cap : Nat} {m : List Ag} (h : w.ownsRow 0 79 3 (.slice (some ⟨g, 0, none⟩) n cap) n (flatA m)) (i : Nat) (x : Ag) :
    (((w.setCell ⟨g, i * 3, none⟩ (.int .i64 x.to)).setCell ⟨g, i * 3 + 1, none⟩ (.string x.data)).setCell ⟨g, i * 3 + 2, none⟩ (.int .i64 x.age)).ownsRow 0 79 3 (.slice (some ⟨g, 0, none⟩) n cap) n (flatA (m.set i x)) := by
  have h1 := (h.stored (i * 3) (.int .i64 x.to)).1
  have h2 := (h1.stored (i * 3 + 1) (.string x.data)).1
  have h3 := (h2.stored (i * 3 + 2) (.int .i64 x.age)).1
  rw [flatA_set] at h3
  exact h3

/-- Where the loop stands: the first i of the row are those of the first j that stay; from j on nothing has changed. -/
structure At (keep : Ag → Bool) (l m : List Ag) (i j : Nat) : Prop where
  len : m.length = l.length
  jl : j ≤ l.length
  head : m.take i = (l.take j).filter keep
  tail : m.drop j = l.drop j
  ij : i ≤ j

theorem At.cnt {keep : Ag → Bool} {l m : List Ag} {i j : Nat} (h : At keep l m i j) : ((l.take j).filter keep).length = i := by
  rw [← h.head, List.length_take]
  have := h.len; have := h.jl; have := h.ij
  omega
theorem At.drop {keep : Ag → Bool} {l m : List Ag} {i j : Nat} {x : Ag} (h : At keep l m i j) (hx : l[j]? = some x) (hk : keep x = false) : At keep l m i (j + 1) := by
  have hj := (List.getElem?_eq_some_iff.1 hx).1
  refine ⟨h.len, hj, ?_, ?_, by have := h.ij; omega⟩
  · rw [h.head, List.take_add_one, hx]; simp [hk]
  · have := congrArg List.tail h.tail
    simpa using this
theorem At.keep {keep : Ag → Bool} {l m : List Ag} {i j : Nat} {x : Ag} (h : At keep l m i j) (hx : l[j]? = some x) (hk : keep x = true) : At keep l (m.set i x) (i + 1) (j + 1) := by
  have hj := (List.getElem?_eq_some_iff.1 hx).1
  have hij := h.ij
  have hl := h.len
  refine ⟨by simp [hl], hj, ?_, ?_, by omega⟩
  · rw [List.take_add_one, List.take_set_of_le (by omega), h.head, List.take_add_one, hx, List.getElem?_set_self (by omega)]
    simp [hk]
  · rw [List.drop_set_of_lt (by omega)]
    have := congrArg List.tail h.tail
    simpa using this
theorem At.here {keep : Ag → Bool} {l m : List Ag} {i j : Nat} {x : Ag} (h : At keep l m i j) (hx : l[j]? = some x) : m[j]? = some x := by
  have := congrArg (fun q => q[0]?) h.tail
  simpa [hx] using this
theorem At.start {keep : Ag → Bool} {l : List Ag} {k : Nat} {x : Ag} (hx : l[k]? = some x) (h : (l.take k).any (fun x => !keep x) = false) (hp : keep x = false) : At keep l l k (k + 1) := by
  have hj := (List.getElem?_eq_some_iff.1 hx).1
  refine ⟨rfl, hj, ?_, rfl, by omega⟩
  rw [List.take_add_one, hx]
  have : (l.take k).filter keep = l.take k := List.filter_eq_self.2 fun y hy => by
    have := List.any_eq_false.1 h y hy
    simpa using this
  simp [hp, this]

def stays (ticks : Int) (x : Ag) : Bool := !lateB ticks x

theorem idxA_neg {p : Ag → Bool} {l : List Ag} (h : idxA p l = -1) : l.any p = false := by
  unfold idxA at h
  by_cases ha : l.any p = true
  · rw [if_pos ha] at h; omega
  · simpa using ha
theorem idxA_pos {p : Ag → Bool} {l : List Ag} (h : ¬ idxA p l = -1) : ∃ (k : Nat) (x : Ag), l[k]? = some x ∧ idxA p l = (k : Int) ∧ (l.take k).any p = false ∧ p x = true := by
  unfold idxA at h ⊢
  by_cases ha : l.any p = true
  · rw [if_pos ha]
    have hlt : l.findIdx p < l.length := List.findIdx_lt_length_of_exists (List.any_eq_true.1 ha)
    refine ⟨l.findIdx p, l[l.findIdx p], by simp [hlt], rfl, ?_, List.findIdx_getElem (w := hlt)⟩
    rw [List.any_eq_false]
    intro y hy
    rw [List.mem_take_iff_getElem] at hy
    obtain ⟨j, hj, rfl⟩ := hy
    simpa using List.not_of_lt_findIdx (p := p) (xs := l) (i := j) (by omega)
  · rw [if_neg ha] at h; exact absurd rfl h

theorem delete_close {w3 : World} {keep : Ag → Bool} {l m : List Ag} {i g cap : Nat} {cur cur3 : Array Value} (hcnt : (l.filter keep).length = i) (hhead : m.take i = l.filter keep) (hlm : m.length = l.length) (hij : i ≤ l.length) (hnc : l.length ≤ cap)
    (hg3 : w3.heap[g]? = some (.cells cur3 79 (0, 0))) (hsz : cur3.size = cap * 3) (htk3 : cur3.toList.take (i * 3) = cur.toList.take (i * 3)) (htk : cur.toList.take (l.length * 3) = flatA m) (hcm : cap ≤ maxLen) :
    w3.ownsRow 0 79 3 (.slice (some ⟨g, 0, none⟩) i cap) (l.filter keep).length (flatA (l.filter keep)) := by
  rw [hcnt]
  refine ⟨by rw [flatA_len, hcnt], .inr ⟨g, cap, cur3, rfl, Nat.zero_le _, hg3, by omega, hcm, hsz, ?_⟩⟩
  rw [htk3]
  have e : (cur.toList.take (l.length * 3)).take (i * 3) = cur.toList.take (i * 3) := by rw [List.take_take]; congr 1; omega
  rw [← e, htk, ← hhead]
  have hs : flatA m = flatA (m.take i) ++ flatA (m.drop i) := by rw [flatA, flatA, flatA, ← List.flatMap_append, List.take_append_drop]
  rw [hs, List.take_append_of_le_length (by rw [flatA_len, List.length_take]; omega), List.take_of_length_le (by rw [flatA_len, List.length_take]; omega)]

theorem delete_calls (w : World) (bt : Nat) (ticks : Int) (hc : w.heap[bt]? = some (.cells #[.int .i64 ticks] 3 (0, 0))) (l : List Ag) (v : Value) (hown : w.ownsRow 0 79 3 v l.length (flatA l)) (hn : l.length ≤ 1000000) :
    Calls Try.prog 41 #[v, .func (.func 42) #[] #[.pointer (some ⟨bt, 0, none⟩)]] w fun e w' =>
      ∃ v', e = .returned v' ∧ w'.ownsRow 0 79 3 v' (l.filter (stays ticks)).length (flatA (l.filter (stays ticks))) ∧ v'.ownBlock = v.ownBlock ∧ Upd (fun k => v.ownBlock = some k) w w' := by
  by_cases hno : idxA (lateB ticks) l = -1
  · have hall : l.filter (stays ticks) = l := List.filter_eq_self.2 fun y hy => by
      have := List.any_eq_false.1 (idxA_neg hno) y hy
      simpa [stays] using this
    rw [hall]
    go_enter Try.func41, Try.ntmps41
    go_wp2_with (go_at_call 51; refine (index_calls _ bt ticks hc l _ hown hn).mono ?_; rintro e w1 ⟨rfl, hb1⟩)
    go_ret
    exact ⟨v, rfl, below_ownsRow hb1 hown (fun g h => (hown.lt g h).2), rfl, Upd.of_below hb1 _⟩
  · obtain ⟨k0, x0, hx0, he, hnone, hp0⟩ := idxA_pos hno
    have hk0 := (List.getElem?_eq_some_iff.1 hx0).1
    obtain ⟨g, cap, cur, rfl, _, hg, hnc, hcm, hcs, htk⟩ := hown.2.resolve_left (fun h => by omega)
    have hgl := lt_of_block hg
    have hbl := lt_of_block hc
    have hgb : g ≠ bt := fun e => by subst e; rw [hc] at hg; simp at hg
    have hS := At.start (keep := stays ticks) hx0 (by simpa [stays] using hnone) (by simp [stays, hp0])
    have hidx := index_calls w bt ticks hc l _ hown hn
    rw [he] at hidx
    unfold maxLen at hcm
    clear he hno hnone hp0 hcs htk
    have hkm : ((k0 : Int) == -1) = false := by simp
    have HC := Lib.hid hc; clear hc
    have Hg := Lib.hid hg; clear hg
    have Hx0 := Lib.hid hx0; clear hx0
    go_enter Try.func41, Try.ntmps41
    go_wp2_with (go_at_call 51; refine hidx.mono ?_; rintro e w1 ⟨rfl, hb1⟩)
    go_loopw [5, 6] (fun vi vj wr => ∃ (i j : Nat) (m : List Ag), vi = .int .i64 i ∧ vj = .int .i64 j ∧ At (stays ticks) l m i j ∧ wr.ownsRow 0 79 3 (.slice (some ⟨g, 0, none⟩) l.length cap) l.length (flatA m) ∧ Upd (fun k => k = g) w wr) (fun _ vj _ => l.length - (intOf vj).toNat)
    case atStart => exact ⟨k0, k0 + 1, l, rfl, by go_num, hS, below_ownsRow hb1 hown (fun g' h => by simp [Value.ownBlock] at h; omega), Upd.of_below hb1 _⟩
    case round =>
      obtain ⟨i, j, m, rfl, rfl, hat, hown', hupd⟩ := hrel
      have hlm := hat.len
      have hjl := hat.jl
      have hij := hat.ij
      have hsz := hupd.size
      by_cases hlt : j < l.length
      · obtain ⟨x, hx⟩ : ∃ x, l[j]? = some x := ⟨l[j], by simp [hlt]⟩
        obtain ⟨y, hy⟩ : ∃ y, m[i]? = some y := ⟨m[i]'(by omega), by simp [show i < m.length by omega]⟩
        obtain ⟨c0, c1, c2⟩ := own_cells (l := m) (cap := cap) (hlm ▸ hown') (hat.here hx)
        obtain ⟨d0, d1, d2⟩ := own_cells (l := m) (cap := cap) (hlm ▸ hown') hy
        have f0 := hown'.frozenAt (i * 3)
        have f1 := hown'.frozenAt (i * 3 + 1)
        have f2 := hown'.frozenAt (i * 3 + 2)
        have hct : wr.heap[bt]? = some (.cells #[.int .i64 ticks] 3 (0, 0)) := hupd.block_eq HC.out (by simpa using fun h => hgb h.symm)
        have hg0 : g < wr.heap.size := by omega
        have hg1 : g < wr.heap.size + 1 := by omega
        have Hx := Lib.hid hx; clear hx
        have Hy := Lib.hid hy; clear hy
        have Hct := Lib.hid hct; clear hct
        have Hlm := Lib.hid hlm; clear hlm
        go_wp2_with (go_at_call 42; refine (choice_calls _ bt ticks x (by rw [heap_alloc_old _ _ (by omega)]; exact Hct.out)).mono ?_; rintro e w2 ⟨rfl, hb2⟩; obtain ⟨hcb, hfb⟩ := bcell hb2)
        · have hp : (!lateB ticks x) = true := by assumption
          go_roundw
          case rel => exact ⟨i + 1, j + 1, m.set i x, by go_num, by go_num, hat.keep Hx.out hp, own_set (below_ownsRow hb2 (hown'.alloc _) (fun g' h => by simp [Value.ownBlock] at h; subst h; simpa using hg1)) i x,
            ((((hupd.alloc _).trans (Upd.of_below hb2 _)).setCell (.inl rfl) _).setCell (.inl rfl) _).setCell (.inl rfl) _⟩
          case measure => simp [intOf]; omega
        · have hp : (!lateB ticks x) = false := by assumption
          go_roundw
          case rel => exact ⟨i, j + 1, m, rfl, by go_num, hat.drop Hx.out hp, below_ownsRow hb2 (hown'.alloc _) (fun g' h => by simp [Value.ownBlock] at h; subst h; simpa using hg1), (hupd.alloc _).trans (Upd.of_below hb2 _)⟩
          case measure => simp [intOf]; omega
      · obtain rfl : j = l.length := by omega
        have hcnt := hat.cnt
        have hhead := hat.head
        rw [List.take_length] at hcnt hhead
        have Hcnt := Lib.hid hcnt; clear hcnt
        have Hhead := Lib.hid hhead; clear hhead
        have Hlm := Lib.hid hlm; clear hlm
        obtain ⟨g', cap', cur', hv, _, hg', hnc', hcm', hcs', htk'⟩ := hown'.2.resolve_left (fun h => by simp at h)
        simp only [Value.slice.injEq, Option.some.injEq, Addr.mk.injEq, and_true, true_and] at hv
        obtain ⟨rfl, rfl⟩ := hv
        have Hg' := Lib.hid hg'; clear hg'
        have Hcs := Lib.hid hcs'; clear hcs'
        have Htk := Lib.hid htk'; clear htk'
        by_cases hin : i < l.length
        · have hci : ¬ (cap = i) := by omega
          go_wp2_with (with_reducible refine et79.wpList_clear (g := g) (off := i * 3) (m := l.length - i) (cur := cur') Hg'.out (fun _ => rfl) (by rw [Hcs.out]; omega) rfl (.tmp 38) rfl rfl ?_; intro w3 cur3 hg3 hsz3 htk3 hgrow3)
          go_ret
          refine ⟨_, rfl, delete_close (keep := stays ticks) Hcnt.out Hhead.out Hlm.out hij hnc hg3 (hsz3.trans Hcs.out) htk3 Htk.out (by unfold maxLen; omega), rfl, (hupd.grown hgrow3 fun k hk => .inl (by simpa using hk.symm)).mono fun k _ hk => by simp [Value.ownBlock, hk]⟩
        · have Hil : Hid (i = l.length) := Lib.hid (by omega)
          have hle : i ≤ l.length := hij
          clear hin hlt hij hjl
          by_cases hci : cap = i
          · have hci' : (cap = i) = True := eq_true hci
            have Hci := Lib.hid hci; clear hci
            go_wp2_with (with_reducible refine et79.wpList_clear (g := g) (off := i * 3) (m := l.length - i) (cur := cur') Hg'.out (fun h => by have := Hil.out; omega) (by rw [Hcs.out]; have := Hci.out; omega) rfl (.tmp 38) rfl rfl ?_; intro w3 cur3 hg3 hsz3 htk3 hgrow3)
            go_ret
            refine ⟨_, rfl, delete_close (keep := stays ticks) Hcnt.out Hhead.out Hlm.out hle hnc hg3 (hsz3.trans Hcs.out) htk3 Htk.out (by unfold maxLen; omega), rfl, (hupd.grown hgrow3 fun k hk => .inl (by simpa using hk.symm)).mono fun k _ hk => by simp [Value.ownBlock, hk]⟩
          · go_wp2_with (with_reducible refine et79.wpList_clear (g := g) (off := i * 3) (m := l.length - i) (cur := cur') Hg'.out (fun h => by have := Hil.out; omega) (by rw [Hcs.out]; omega) rfl (.tmp 38) rfl rfl ?_; intro w3 cur3 hg3 hsz3 htk3 hgrow3)
            go_ret
            refine ⟨_, rfl, delete_close (keep := stays ticks) Hcnt.out Hhead.out Hlm.out hle hnc hg3 (hsz3.trans Hcs.out) htk3 Htk.out (by unfold maxLen; omega), rfl, (hupd.grown hgrow3 fun k hk => .inl (by simpa using hk.symm)).mono fun k _ hk => by simp [Value.ownBlock, hk]⟩
end Go.Proofs.Ytdkebkalcelgpaa.Mail
