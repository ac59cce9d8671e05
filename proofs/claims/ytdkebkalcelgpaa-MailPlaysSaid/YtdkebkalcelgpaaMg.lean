/- All that the mail holds; a tick of age. -/
import Derived.Test.YtdkebkalcelgpaaMf
namespace Go.Proofs.Ytdkebkalcelgpaa.Mail
open Go.RowKit

structure Ms where
  to : Int
  data : ByteArray
  deriving DecidableEq
def encM (x : Ms) : List Value := [.int .i64 x.to, .string x.data]
def flatM (l : List Ms) : List Value := l.flatMap encM
theorem encM_len (x : Ms) : (encM x).length = 2 := rfl
theorem flatM_len (l : List Ms) : (flatM l).length = l.length * 2 := flat_length encM 2 encM_len l
theorem flatM_snoc (l : List Ms) (x : Ms) : flatM (l ++ [x]) = flatM l ++ encM x := by simp [flatM]
def msOf (x : Ag) : Ms := ⟨x.to, x.data⟩
theorem info32 : (Try.prog.info? 32).map (fun i => (i.zero, i.size, i.bytes)) = some (some (.agg #[.int .i64 0, .string ByteArray.empty]), 2, 24) := by kernel_rfl
theorem et32 : ET Try.prog 27 32 2 24 := ET.of Try.underlying27 info32 rfl (by decide) (by simp [Value.cells, Value.oneCell'])

theorem all_calls (w : World) (b : Nat) (l : List Ag) (F : Nat → Prop) (hR : MailR w b l F) (hn : l.length ≤ 1000000) :
    Calls Try.prog 22 #[.pointer (some ⟨b, 0, none⟩)] w fun e w' => ∃ v, e = .returned v ∧ w'.ownsRow 0 32 2 v l.length (flatM (l.map msOf)) ∧ (∀ g, v.ownBlock = some g → w.heap.size ≤ g) ∧ Below w.heap.size w w' := by
  obtain ⟨v, hb, hown, hFb, hFg, hFs⟩ := hR
  have hcells : ∀ W, Below w.heap.size w W → ∀ k x, l[k]? = some x → ∃ g cap, v = .slice (some ⟨g, 0, none⟩) l.length cap ∧ g < w.heap.size ∧ W.cell? ⟨g, k * 3, none⟩ = some (.int .i64 x.to) ∧ W.cell? ⟨g, k * 3 + 1, none⟩ = some (.string x.data) ∧ W.cell? ⟨g, k * 3 + 2, none⟩ = some (.int .i64 x.age) := by
    intro W hW k x hx
    have hk := (List.getElem?_eq_some_iff.1 hx).1
    obtain ⟨g, cap, rfl, _, hgl⟩ := hown.form (by omega)
    exact ⟨g, cap, rfl, hgl, own_cells (below_ownsRow hW hown (fun g' h => by simp [Value.ownBlock] at h; omega)) hx⟩
  obtain ⟨ao, cap0, hv, _⟩ : ∃ ao cap, v = .slice ao l.length cap ∧ True := by
    rcases hown.2 with ⟨rfl, h0⟩ | ⟨g, cap, cur, rfl, _⟩
    · exact ⟨none, 0, by rw [h0], trivial⟩
    · exact ⟨_, cap, rfl, trivial⟩
  subst hv
  have hcb := cell_of_one hb
  clear hFb hFg hFs hb hown
  go_enter Try.func22, Try.ntmps22
  go_wp2
  go_loopw [3, 12] (fun vo vk wr => ∃ k : Nat, k ≤ l.length ∧ vk = .int .i64 k ∧ wr.ownsRow 0 32 2 vo k (flatM ((l.take k).map msOf)) ∧ (∀ g, vo.ownBlock = some g → w.heap.size ≤ g) ∧ Below w.heap.size w wr) (fun _ vk _ => l.length - (intOf vk).toNat)
  case atStart => exact ⟨0, Nat.zero_le _, rfl, World.ownsRow_nil _ _ _ _, fun g h => by simp [Value.ownBlock] at h, Below.refl _ _⟩
  case round =>
    obtain ⟨k, hk, rfl, ho, hog, hbel⟩ := hrel
    have hsz := hbel.size
    by_cases hlt : k < l.length
    · obtain ⟨x, hx⟩ : ∃ x, l[k]? = some x := ⟨l[k], by simp [hlt]⟩
      obtain ⟨g, cap, hvv, hgl, c0, c1, c2⟩ := hcells wr hbel k x hx
      simp only [Value.slice.injEq, true_and] at hvv
      obtain ⟨rfl, rfl⟩ := hvv
      have hg0 : g < wr.heap.size := by omega
      have Hx := Lib.hid hx
      clear hcells hx
      go_wp2_with (with_reducible refine et32.wpList1 ((ho.alloc _).alloc _) (heap_alloc2_new _ _ _) rfl (by simp [Value.oneCell']) (by omega) (by unfold maxLen; omega) rfl (.tmp 16) (.tmp 19) rfl rfl rfl ?_; intro g1 cap1 w1 hown1 hgrow hat hlt1)
      go_roundw
      case rel =>
        refine ⟨k + 1, by omega, by go_num, ?_, fun g hg => ?_, ?_⟩
        · have e : flatM ((l.take (k + 1)).map msOf) = flatM ((l.take k).map msOf) ++ [.int .i64 x.to, .string x.data] := by
            rw [List.take_add_one, Hx.out, List.map_append, Option.toList_some, List.map_singleton, flatM_snoc]; rfl
          rw [e]; exact hown1
        · simp [Value.ownBlock] at hg
          subst hg
          rcases hat with h | h
          · exact hog _ h
          · simp at h; omega
        · exact hbel.trans ((((Below.refl _ _).alloc (by omega) _).alloc (by simp; omega) _).grown hgrow (by simp; omega) (fun q hq => hog q hq))
      case measure => simp [intOf]; omega
    · obtain rfl : k = l.length := by omega
      rw [List.take_length] at ho
      have Ho := Lib.hid ho; clear ho hcells
      go_wp2
      go_ret
      exact ⟨_, rfl, Ho.out, hog, hbel⟩

def inc (x : Ag) : Ag := { x with age := x.age + 1 }
def bump (k : Nat) (l : List Ag) : List Ag := (l.take k).map inc ++ l.drop k
theorem bump_len (k : Nat) (l : List Ag) : (bump k l).length = l.length := by simp [bump]; omega
theorem bump_all (l : List Ag) : bump l.length l = l.map inc := by simp [bump]
theorem bump_get {k : Nat} {l : List Ag} {x : Ag} (hx : l[k]? = some x) : (bump k l)[k]? = some x := by
  have hk := (List.getElem?_eq_some_iff.1 hx).1
  rw [bump, List.getElem?_append_right (by simp; omega)]
  simp only [List.length_map, List.length_take, List.getElem?_drop]
  rw [show k + (k - min k l.length) = k by omega]; exact hx
theorem bump_succ {k : Nat} {l : List Ag} {x : Ag} (hx : l[k]? = some x) : (bump k l).set k (inc x) = bump (k + 1) l := by
  have hk := (List.getElem?_eq_some_iff.1 hx).1
  have e : l.drop k = x :: l.drop (k + 1) := by rw [List.drop_eq_getElem_cons hk]; rw [(List.getElem?_eq_some_iff.1 hx).2]
  rw [bump, List.set_append_right _ _ (by simp; omega), e]
  simp only [List.length_map, List.length_take]
  rw [show k - min k l.length = 0 by omega, List.set_cons_zero, bump, List.take_add_one, hx]
  simp
theorem flatA_age {m : List Ag} {k : Nat} {x : Ag} (hx : m[k]? = some x) : (flatA m).set (k * 3 + 2) (.int .i64 (x.age + 1)) = flatA (m.set k (inc x)) := by
  rw [← flatA_set m k (inc x)]
  have e0 := flat_get encA 3 encA_len m k 0 x hx (by decide)
  have e1 := flat_get encA 3 encA_len m k 1 x hx (by decide)
  have h0 : (flatA m).set (k * 3) (.int .i64 (inc x).to) = flatA m := by
    apply List.ext_getElem?
    intro j
    rw [List.getElem?_set]
    split
    · rename_i h; subst h; split
      · exact e0.symm
      · rw [List.getElem?_eq_none (by omega)]
    · rfl
  rw [h0]
  have h1 : (flatA m).set (k * 3 + 1) (.string (inc x).data) = flatA m := by
    apply List.ext_getElem?
    intro j
    rw [List.getElem?_set]
    split
    · rename_i h; subst h; split
      · exact e1.symm
      · rw [List.getElem?_eq_none (by omega)]
    · rfl
  rw [h1]
  rfl

/-- The mail behind a tick. -/
def ageL (ticks : Int) (l : List Ag) : List Ag := (l.filter (stays ticks)).map inc
def ageN (ticks : Int) (l : List Ag) : Int := (l.length : Int) - (l.filter (stays ticks)).length

theorem age_calls (w : World) (b : Nat) (l : List Ag) (F : Nat → Prop) (ticks : Int) (hR : MailR w b l F) (hn : l.length ≤ 1000000) (hage : ∀ x ∈ l, 0 ≤ x.age ∧ x.age ≤ 1000000) :
    Calls Try.prog 20 #[.pointer (some ⟨b, 0, none⟩), .int .i64 ticks] w fun e w' => e = .returned (.int .i64 (ageN ticks l)) ∧ Left w w' b (ageL ticks l) F := by
  have hbl := hR.lt
  have hR0 := hR
  obtain ⟨v, hb, hown, hFb, hFg, hFs⟩ := hR
  have hA : Upd F w (w.alloc (.cells #[.int .i64 ticks] 3)) := (Upd.refl F w).alloc _
  have hM : MailR (w.alloc (.cells #[.int .i64 ticks] 3)) b l F := hR0.pre ((Below.refl _ _).alloc (Nat.le_refl _) _)
  have hl := len_calls _ b l F hM
  have hd := delete_calls (w.alloc (.cells #[.int .i64 ticks] 3)) w.heap.size ticks (heap_alloc_new w _) l v (hown.alloc _) hn
  have hcb : (w.alloc (.cells #[.int .i64 ticks] 3)).cell? ⟨b, 0, none⟩ = some v := cell_of_one ((heap_alloc_old _ _ hbl).trans hb)
  have hgb := own_ne hb hown
  have hlen : (l.filter (stays ticks)).length ≤ l.length := List.length_filter_le _ _
  have hages : ∀ x ∈ l.filter (stays ticks), 0 ≤ x.age ∧ x.age ≤ 1000000 := fun x hx => hage x (List.mem_filter.1 hx).1
  have Hb := Lib.hid hb
  clear hb hR0 hM hage
  generalize hl' : l.filter (stays ticks) = l' at *
  have HL := Lib.hid hl'
  clear hl'
  go_enter Try.func20, Try.ntmps20
  go_wp2_with (first
    | (go_at_call 24; refine hl.mono ?_; rintro e w1 ⟨rfl, rfl⟩)
    | (go_at_call 41; refine hd.mono ?_; rintro e w1 ⟨v', rfl, hown1, hvb, hupd1⟩; obtain ⟨ao', cap', rfl, hcap'⟩ := own_slice hown1; have hb1 : w1.heap[b]? = some (.cells #[v] 75 (0, 0)) := hupd1.block_eq ((heap_alloc_old _ _ hbl).trans Hb.out) hgb; have hc1 := cell_of_one hb1; have hf1 := free_of_one hb1; have hb2 := one_setCell (u := .slice ao' l'.length cap') hb1; have hc2 := cell_of_one hb2))
  have hS1 := hupd1.size
  simp only [World.size_alloc] at hS1
  have hgb' : ∀ g, ao' = some ⟨g, 0, none⟩ → g ≠ b ∧ F g := fun g hg => by
    have e : v.ownBlock = some g := by rw [← hvb, hg]; rfl
    exact ⟨fun h => hgb (by rw [e, h]), hFg g e⟩
  have hU1 : Upd F w (w1.setCell ⟨b, 0, none⟩ (.slice ao' l'.length cap')) := (hA.trans' hupd1 (fun k hk => .inl (hFg k hk))).setCell (.inl hFb) _
  have ho2 : (w1.setCell ⟨b, 0, none⟩ (.slice ao' l'.length cap')).ownsRow 0 79 3 (.slice ao' l'.length cap') l'.length (flatA (bump 0 l')) := by
    have := ownsRow_setCell_other (a := ⟨b, 0, none⟩) hown1 (by rw [hvb]; exact hgb) (.slice ao' l'.length cap')
    simpa [bump] using this
  have Hb2 := Lib.hid hb2
  clear hc1 hf1 hb1 hd hl hc2 hb2
  generalize hW2 : w1.setCell ⟨b, 0, none⟩ (.slice ao' l'.length cap') = w2 at *
  have HW2 := Lib.hid hW2; clear hW2
  go_loopw [26] (fun vk wr => ∃ k : Nat, k ≤ l'.length ∧ vk = .int .i64 k ∧ wr.heap[b]? = some (.cells #[.slice ao' l'.length cap'] 75 (0, 0)) ∧ wr.ownsRow 0 79 3 (.slice ao' l'.length cap') l'.length (flatA (bump k l')) ∧ Upd F w wr) (fun vk _ => l'.length - (intOf vk).toNat)
  case atStart => exact ⟨0, Nat.zero_le _, rfl, Hb2.out, ho2, hU1⟩
  case round =>
    obtain ⟨k, hk, rfl, hbr, hor, hur⟩ := hrel
    have hcr := cell_of_one hbr
    have Hbr := Lib.hid hbr; clear hbr
    by_cases hlt : k < l'.length
    · obtain ⟨x, hx⟩ : ∃ x, l'[k]? = some x := ⟨l'[k], by simp [hlt]⟩
      obtain ⟨g, cap, hvv, _, _⟩ := hor.form (by omega)
      simp only [Value.slice.injEq, true_and] at hvv
      obtain ⟨rfl, rfl⟩ := hvv
      obtain ⟨hgne, hgF⟩ := hgb' g rfl
      have hbx := bump_get hx
      have hlen' := bump_len k l'
      obtain ⟨c0, c1, c2⟩ := own_cells (l := bump k l') (cap := cap') (hlen' ▸ hor) hbx
      have f2 := hor.frozenAt (k * 3 + 2)
      obtain ⟨ha0, ha1⟩ := hages x (List.mem_of_getElem? hx)
      have Hx := Lib.hid hx; clear hx
      have Hbx := Lib.hid hbx; clear hbx
      have Hlen := Lib.hid hlen'; clear hlen'
      clear hages
      go_wp2
      go_roundw
      case rel =>
        refine ⟨k + 1, by omega, by go_num, (heap_setCell_other _ ⟨g, k * 3 + 2, none⟩ b _ (show b ≠ g from fun h => hgne h.symm)).trans Hbr.out, ?_, hur.setCell (.inl hgF) _⟩
        have := (hor.stored (k * 3 + 2) (.int .i64 (x.age + 1))).1
        rw [flatA_age Hbx.out, bump_succ Hx.out] at this
        exact this
      case measure => simp [intOf]; omega
    · obtain rfl : k = l'.length := by omega
      rw [bump_all] at hor
      have hMr : MailR wr b (l'.map inc) F := ⟨_, Hbr.out, by rw [List.length_map]; exact hor, hFb, fun g hg => by
        rw [hvb] at hg
        exact hFg g hg, fun k hk => Nat.lt_of_lt_of_le (hFs k hk) hur.size⟩
      have hlr := len_calls wr b _ F hMr
      have Hor := Lib.hid hor; clear hor
      have HMr := Lib.hid hMr; clear hMr
      rw [List.length_map] at hlr
      clear hages
      go_wp2_with (go_at_call 24; refine hlr.mono ?_; rintro e w3 ⟨rfl, rfl⟩)
      go_ret
      refine ⟨ret_int ?_, hur, F, fun k hk => .inl hk, ?_⟩
      · simp only [ageN, HL.out]
      · simpa only [ageL, HL.out] using HMr.out
end Go.Proofs.Ytdkebkalcelgpaa.Mail
