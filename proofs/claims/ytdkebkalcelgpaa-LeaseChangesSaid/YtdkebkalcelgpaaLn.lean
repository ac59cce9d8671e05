/- Leases: the walk of lease.Renew. -/
import Derived.Test.YtdkebkalcelgpaaLm
namespace Go.Proofs.Ytdkebkalcelgpaa.Lease
open Go.RowKit
set_option linter.unusedSimpArgs false

def RenPost (w : World) (k : Int) (q : List Le) (e : Ending) (w' : World) : Prop :=
  ∃ v', e = .returned (.tuple #[v', .int .i64 k]) ∧ OwnL w w' v' q ∧ Below w.heap.size w w'

theorem renew_no (w : World) (v : Value) (l : List Le) (c now : Int) (h : Rd w 2 encL v l) (hn : l.length ≤ 8796093022208) (hno : renOk c now l = false) :
    Calls Try.prog 33 #[v, .int .i64 c, .int .i64 now] w (RenPost w 1 []) := by
  have hr := right_calls w v l h hn
  obtain ⟨ao, cap, rfl, _, _, _⟩ := rd_cells h
  clear h
  rcases ren_no hno with hR | ⟨hR, hg | ⟨g1, hg | ⟨g2, hg | ⟨g3, hg⟩⟩⟩⟩ <;>
  · rw [hR] at hr
    clear hR hno
    go_enter Try.func33, Try.ntmps33
    go_wp2_with (go_at_call 27; refine hr.mono ?_; rintro e w1 ⟨rfl, hb1⟩)
    go_ret2
    exact ⟨_, rfl, ⟨World.ownsRow_nil _ _ _ _, fun g h => by simp [Value.ownBlock] at h⟩, hb1⟩

set_option maxHeartbeats 2000000 in
theorem renew_old (w : World) (v : Value) (l : List Le) (c now : Int) (h : Rd w 2 encL v l) (hn : l.length ≤ 8796093022208) (hok : renOk c now l = true) (hh : hasL c l = true) :
    Calls Try.prog 33 #[v, .int .i64 c, .int .i64 now] w (RenPost w 0 (renQ c now l)) := by
  have hr := right_calls w v l h hn
  obtain ⟨hR, g1, g2, g3, g4⟩ := renOk_iff.1 hok
  have hlen := right_len hR
  have hcl := fun W (hW : Below w.heap.size w W) => clone_calls W v l (h.below hW (Nat.le_refl _)) (by omega)
  have hris := right_rises hR
  obtain ⟨x, hx, hc, hf⟩ := idx_has hris hh
  have hq := ren_old (now := now) hR hx hc hf
  have hpos := (List.getElem?_eq_some_iff.1 hx).1
  obtain ⟨ao, cap, rfl, _, _, _⟩ := rd_cells h
  rw [hR] at hr
  rw [← hq]
  have hat := fun W v2 (hrd : Rd W 2 encL v2 l) => at_calls W v2 l c hrd hris hn
  rw [hh] at hat
  clear hR h hok hh hf hq hris
  generalize idxL c l = i at *
  have Hcl := Lib.hid hcl; have Hat := Lib.hid hat; have Hx := Lib.hid hx; clear hcl hat hx
  have k1 : IntKind.i64.wrap (now + 10) = now + 10 := by rw [IntKind.wrap_i64]; omega
  have k2 : ¬ c < 0 := by omega
  have k3 : ¬ 4 ≤ c := by omega
  have k4 : ¬ now < 0 := by omega
  have k5 : ¬ 9007199254740981 < now := by omega
  go_enter Try.func33, Try.ntmps33
  go_wp2_with (first
    | (go_at_call 27; refine hr.mono ?_; rintro e w1 ⟨rfl, hb1⟩)
    | (go_at_call 45; refine (Hcl.out _ hb1).mono ?_; rintro e w2 ⟨v2, rfl, hO, hb2⟩; have hRd2 := Rd.of_own encL_len hO.own)
    | (go_at_call 43; refine (Hat.out _ _ hRd2).mono ?_; rintro e w3 ⟨rfl, hb3⟩; have hown3 := below_ownsRow hb3 hO.own (fun g hg => (hO.own.lt g hg).2); obtain ⟨g, cap2, rfl, _, _⟩ := hown3.form (Nat.lt_of_le_of_lt (Nat.zero_le _) hpos); obtain ⟨c3, f3⟩ := own_at hown3 Hx.out))
  all_goals
    go_ret2
    have hB2 := hb1.trans (hb2.mono hb1.size)
    have hB3 := hB2.trans (hb3.mono hB2.size)
    have hg := Nat.le_trans hb1.size (hO.new g rfl)
    have hfin := own_until hown3 Hx.out (max x.u (now + 10))
    rw [hc] at hfin
    refine ⟨.slice (some ⟨g, 0, none⟩) l.length cap2, rfl, ⟨?_, fun q hq => ?_⟩, hB3.setCell hg _⟩
    · rw [List.length_set]
      first
      | (have hm : max x.u (now + 10) = now + 10 := by omega
         rw [hm] at hfin ⊢
         exact hfin)
      | (have hm : max x.u (now + 10) = x.u := by omega
         rw [hm] at hfin ⊢
         exact hfin)
    · simp only [Value.ownBlock, Option.some.injEq] at hq
      exact hq ▸ hg

set_option maxHeartbeats 2000000 in
theorem renew_new (w : World) (v : Value) (l : List Le) (c now : Int) (h : Rd w 2 encL v l) (hn : l.length ≤ 8796093022208) (hok : renOk c now l = true) (hh : hasL c l = false) :
    Calls Try.prog 33 #[v, .int .i64 c, .int .i64 now] w (RenPost w 0 (renQ c now l)) := by
  have hr := right_calls w v l h hn
  obtain ⟨hR, g1, g2, g3, g4⟩ := renOk_iff.1 hok
  have hlen := right_len hR
  have hcl := fun W (hW : Below w.heap.size w W) => clone_calls W v l (h.below hW (Nat.le_refl _)) (by omega)
  have hris := right_rises hR
  have hq := ren_new (now := now) hh
  have hpos := idx_le c l
  obtain ⟨ao, cap, rfl, _, _, _⟩ := rd_cells h
  rw [hR] at hr
  rw [← hq]
  have hat := fun W v2 (hrd : Rd W 2 encL v2 l) => at_calls W v2 l c hrd hris hn
  rw [hh] at hat
  clear hR h hok hh hq hris
  generalize idxL c l = i at *
  have hL : (l.insertIdx i ⟨c, 0⟩).length = l.length + 1 := by rw [List.length_insertIdx, if_pos hpos]
  have hx : (l.insertIdx i ⟨c, 0⟩)[i]? = some (⟨c, 0⟩ : Le) := by rw [List.getElem?_insertIdx_self, if_pos hpos]
  have Hcl := Lib.hid hcl; have Hat := Lib.hid hat; have Hx := Lib.hid hx; have HL := Lib.hid hL; clear hcl hat hx hL
  have k1 : IntKind.i64.wrap (now + 10) = now + 10 := by rw [IntKind.wrap_i64]; omega
  have k2 : ¬ c < 0 := by omega
  have k3 : ¬ 4 ≤ c := by omega
  have k4 : ¬ now < 0 := by omega
  have k5 : ¬ 9007199254740981 < now := by omega
  have k6 : (i : Int) < (l.length : Int) + 1 := by omega
  go_enter Try.func33, Try.ntmps33
  go_wp2_with (first
    | (go_at_call 27; refine hr.mono ?_; rintro e w1 ⟨rfl, hb1⟩)
    | (go_at_call 45; refine (Hcl.out _ hb1).mono ?_; rintro e w2 ⟨v2, rfl, hO, hb2⟩; have hRd2 := Rd.of_own encL_len hO.own)
    | (go_at_call 43; refine (Hat.out _ _ hRd2).mono ?_; rintro e w3 ⟨rfl, hb3⟩; have hown3 := below_ownsRow hb3 hO.own (fun g hg => (hO.own.lt g hg).2); have hlt3 := (fun g hg => (hown3.lt g hg).2))
    | (go_at_call 46; refine (ins_calls _ v2 l ⟨c, 0⟩ w3.heap.size i hpos (hown3.alloc _) (heap_alloc_new _ _) (fun e => absurd (hlt3 _ e) (Nat.lt_irrefl _)) (by omega)).mono ?_; rintro e w4 ⟨v4, rfl, hown4, hv4, hu4⟩; (rw [HL.out] at hown4); obtain ⟨g, cap4, rfl, _, _⟩ := hown4.form (Nat.succ_pos _); obtain ⟨c4, f4⟩ := own_at hown4 Hx.out))
  all_goals
    go_ret2
    have hB2 := hb1.trans (hb2.mono hb1.size)
    have hB3 := (hB2.trans (hb3.mono hB2.size)).alloc (Nat.le_trans hB2.size hb3.size) (.cells #[.int .i64 c, .int .i64 0] 55)
    have hB4 := hB3.trans (hu4.toBelow (fun k hk => Nat.le_trans hb1.size (hO.new k hk)) hB3.size)
    have hg : w.heap.size ≤ g := by
      rcases hv4 g rfl with h | h
      · exact Nat.le_trans hb1.size (hO.new g h)
      · exact Nat.le_trans hB3.size h
    have hfin := own_until hown4 Hx.out (max 0 (now + 10))
    refine ⟨.slice (some ⟨g, 0, none⟩) (l.length + 1) cap4, rfl, ⟨?_, fun q hq => ?_⟩, hB4.setCell hg _⟩
    · rw [List.length_set, HL.out]
      first
      | (have hm : max 0 (now + 10) = now + 10 := by omega
         rw [hm] at hfin ⊢
         exact hfin)
      | (exfalso; omega)
    · simp only [Value.ownBlock, Option.some.injEq] at hq
      exact hq ▸ hg

theorem renew_calls (w : World) (v : Value) (l : List Le) (c now : Int) (h : Rd w 2 encL v l) (hn : l.length ≤ 8796093022208) :
    Calls Try.prog 33 #[v, .int .i64 c, .int .i64 now] w (RenPost w (if renOk c now l = true then 0 else 1) (renR c now l)) := by
  rw [renR]
  by_cases hok : renOk c now l = true
  · rw [if_pos hok, if_pos hok]
    by_cases hh : hasL c l = true
    · exact renew_old w v l c now h hn hok hh
    · exact renew_new w v l c now h hn hok (by simpa using hh)
  · rw [if_neg hok, if_neg hok]
    exact renew_no w v l c now h hn (by simpa using hok)
end Go.Proofs.Ytdkebkalcelgpaa.Lease
