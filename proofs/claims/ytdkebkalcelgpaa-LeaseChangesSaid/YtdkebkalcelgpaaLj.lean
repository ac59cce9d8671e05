/- Leases: the document's without and Drop. -/
import Derived.Test.YtdkebkalcelgpaaLg
namespace Go.Proofs.Ytdkebkalcelgpaa.Lease
open Go.RowKit

def others (c : Int) (l : List Le) : List Le := l.filter fun x => x.c != c
theorem others_len (c : Int) (l : List Le) : (others c l).length ≤ l.length := List.length_filter_le _ _
theorem others_next {c : Int} {l : List Le} {k : Nat} {x : Le} (hx : l[k]? = some x) : others c (l.take (k + 1)) = if (x.c != c) = true then others c (l.take k) ++ [x] else others c (l.take k) := by
  rw [others, List.take_add_one, hx, others]
  by_cases h : (x.c != c) = true
  · simp only [Option.toList_some, List.filter_append, List.filter_cons, h, List.filter_nil, if_true]
  · simp only [Option.toList_some, List.filter_append, List.filter_cons, h, List.filter_nil, if_false, List.append_nil, Bool.false_eq_true]

set_option maxHeartbeats 2000000 in
theorem without_calls (w : World) (v : Value) (l : List Le) (c : Int) (h : Rd w 2 encL v l) (hn : l.length ≤ 1000000) :
    Calls Try.prog 47 #[v, .int .i64 c] w fun e w' => ∃ v', e = .returned v' ∧ OwnL w w' v' (others c l) ∧ Below w.heap.size w w' := by
  obtain ⟨ao, cap, rfl, hcap, _, hcell⟩ := rd_cells h
  have Hcell := Lib.hid hcell; clear hcell h
  go_enter Try.func47, Try.ntmps47
  go_wp2
  go_loopw [5, 6] (fun vo vk wr => ∃ k : Nat, vk = .int .i64 k ∧ k ≤ l.length ∧ OwnL w wr vo (others c (l.take k)) ∧ Below w.heap.size w wr) (fun _ vk _ => l.length - (intOf vk).toNat)
  case atStart => exact ⟨0, rfl, Nat.zero_le _, ⟨World.ownsRow_nil _ _ _ _, fun g h => by simp [Value.ownBlock] at h⟩, Below.refl _ _⟩
  case round =>
    obtain ⟨k, rfl, hk, hO, hb⟩ := hrel
    have hsz := hb.size
    by_cases hlt : k < l.length
    · obtain ⟨x, hx⟩ : ∃ x, l[k]? = some x := ⟨l[k], by simp [hlt]⟩
      obtain ⟨b, off, rfl, hbl, c0, c1⟩ := Hcell.out wr hb k x hx
      have hbr : b < wr.heap.size := by omega
      have hnx := others_next (c := c) hx
      have hln := others_len c (l.take k)
      rw [List.length_take] at hln
      have Hb := Lib.hid hb; clear hb
      have Hx := Lib.hid hx; clear hx
      have HO := Lib.hid hO; clear hO
      by_cases hu : (x.c != c) = true
      · rw [if_pos hu] at hnx
        have Hnx := Lib.hid hnx; clear hnx
        go_wp2_with (at_builtin; (with_reducible refine etLe.wpList1 (HO.out.1.alloc _) (heap_alloc_new _ _) rfl (by simp [Value.oneCell']) (by omega) (by unfold maxLen; omega) rfl (.tmp 20) (.tmp 25) rfl rfl rfl ?_); intro g1 cap1 w2 hown1 hgrow hat hlt1)
        go_roundw
        case rel =>
          refine ⟨k + 1, by go_num, by omega, ⟨?_, fun g hg => ?_⟩, ((Hb.out.alloc hsz _).grown hgrow (by simp; omega) (fun q hq => HO.out.2 q hq))⟩
          · rw [Hnx.out, flatL_snoc, List.length_append]; exact hown1
          · simp only [Value.ownBlock, Option.some.injEq] at hg
            subst hg
            rcases hat with h | h
            · exact HO.out.2 _ h
            · simp at h; omega
        case measure => simp [intOf]; omega
      · rw [if_neg hu] at hnx
        have Hnx := Lib.hid hnx; clear hnx
        rw [Bool.not_eq_true] at hu
        go_wp2
        go_roundw
        case rel => exact ⟨k + 1, by go_num, by omega, by rw [Hnx.out]; exact HO.out, Hb.out⟩
        case measure => simp [intOf]; omega
    · obtain rfl : k = l.length := by omega
      rw [List.take_length] at hO
      have HO := Lib.hid hO; clear hO
      go_wp2
      go_ret
      exact ⟨_, rfl, HO.out, hb⟩

def dropR (c : Int) (l : List Le) : List Le := if rightB l = true then others c l else []
theorem rdrop_calls (w : World) (v : Value) (l : List Le) (c : Int) (h : Rd w 2 encL v l) (hn : l.length ≤ 8796093022208) :
    Calls Try.prog 37 #[v, .int .i64 c] w fun e w' => ∃ v', e = .returned (.tuple #[v', .bool (rightB l)]) ∧ OwnL w w' v' (dropR c l) ∧ Below w.heap.size w w' := by
  have hr := rright_calls w v l h hn
  by_cases hR : rightB l = true
  · have hlen := right_len hR
    have hw := fun W (hW : Below w.heap.size w W) => without_calls W v l c (h.below hW (Nat.le_refl _)) (by omega)
    have e : dropR c l = others c l := if_pos hR
    rw [e]
    obtain ⟨ao, cap, rfl, _, _, _⟩ := rd_cells h
    rw [hR] at hr ⊢
    clear hR e h
    have Hw := Lib.hid hw; clear hw
    go_enter Try.func37, Try.ntmps37
    go_wp2_with (first
      | (go_at_call 32; refine hr.mono ?_; rintro e w1 ⟨rfl, hb1⟩)
      | (go_at_call 47; refine (Hw.out _ hb1).mono ?_; rintro e w2 ⟨v2, rfl, hO, hb2⟩))
    go_ret2
    exact ⟨_, rfl, ⟨hO.own, fun g hg => Nat.le_trans hb1.size (hO.new g hg)⟩, hb1.trans (hb2.mono hb1.size)⟩
  · have e : dropR c l = [] := if_neg hR
    rw [e]
    rw [Bool.not_eq_true] at hR
    rw [hR] at hr ⊢
    obtain ⟨ao, cap, rfl, _, _, _⟩ := rd_cells h
    clear hR e h
    go_enter Try.func37, Try.ntmps37
    go_wp2_with (go_at_call 32; refine hr.mono ?_; rintro e w1 ⟨rfl, hb1⟩)
    go_ret2
    exact ⟨_, rfl, ⟨World.ownsRow_nil _ _ _ _, fun g h => by simp [Value.ownBlock] at h⟩, hb1⟩
end Go.Proofs.Ytdkebkalcelgpaa.Lease
