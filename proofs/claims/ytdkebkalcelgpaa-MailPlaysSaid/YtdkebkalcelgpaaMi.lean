/- The chapter's examples of the mail. -/
import Derived.Test.YtdkebkalcelgpaaMh
namespace Go.Proofs.Ytdkebkalcelgpaa.Mail
open Go.RowKit

/-- Blocks that hold what they held, apart from F. -/
def Keeps (w : World) (F : Nat → Prop) (P : List (Nat × Obj)) : Prop := ∀ p ∈ P, w.heap[p.1]? = some p.2 ∧ ¬ F p.1
/-- One mail of the call's own; beside it other blocks of its own. -/
def One (w0 w : World) (b : Nat) (l : List Ag) (P : List (Nat × Obj)) : Prop := ∃ F : Nat → Prop, MailR w b l F ∧ (∀ k, F k → w0.heap.size ≤ k) ∧ Below w0.heap.size w0 w ∧ Keeps w F P
/-- Two mails of the call's own. -/
def Two (w0 w : World) (b c : Nat) (l m : List Ag) (P : List (Nat × Obj)) : Prop := ∃ F G : Nat → Prop, MailR w b l F ∧ MailR w c m G ∧ (∀ k, F k → ¬ G k) ∧ (∀ k, F k → w0.heap.size ≤ k) ∧ (∀ k, G k → w0.heap.size ≤ k) ∧ Below w0.heap.size w0 w ∧ Keeps w F P ∧ Keeps w G P

section
variable {w0 w w' : World} {b c : Nat} {l m l' : List Ag} {f : FuncId} {args : Array Value} {R : Ending → Prop} {P : List (Nat × Obj)} {F G : Nat → Prop}
theorem MailR.bound {w : World} {b : Nat} {l : List Ag} {F : Nat → Prop} (h : MailR w b l F) : ∀ k, F k → k < w.heap.size := by obtain ⟨_, _, _, _, _, h⟩ := h; exact h
theorem Keeps.below (h : Keeps w F P) (hb : Below w.heap.size w w') : Keeps w' F P := fun p hp => ⟨(hb.block _ (lt_of_block (h p hp).1)).trans (h p hp).1, (h p hp).2⟩
theorem Keeps.upd (h : Keeps w F P) (hu : Upd F w w') {F' : Nat → Prop} (hF : ∀ k, F' k → F k ∨ w.heap.size ≤ k) : Keeps w' F' P := fun p hp => ⟨hu.block_eq (h p hp).1 (h p hp).2, fun hk => by
  rcases hF _ hk with h' | h'
  · exact (h p hp).2 h'
  · have := lt_of_block (h p hp).1; omega⟩
theorem Keeps.other (h : Keeps w G P) (h' : Keeps w F P) (hu : Upd F w w') : Keeps w' G P := fun p hp => ⟨hu.block_eq (h p hp).1 (h' p hp).2, (h p hp).2⟩
theorem Keeps.push (h : Keeps w F P) (hF : ∀ k, F k → k < w.heap.size) (o : Obj) : Keeps (w.alloc o) F ((w.heap.size, o) :: P) := fun p hp => by
  rcases List.mem_cons.1 hp with rfl | hp
  · exact ⟨heap_alloc_new w o, fun hk => Nat.lt_irrefl _ (hF _ hk)⟩
  · exact ⟨(heap_alloc_old w o (lt_of_block (h p hp).1)).trans (h p hp).1, (h p hp).2⟩
theorem Two.symm (h : Two w0 w b c l m P) : Two w0 w c b m l P := by
  obtain ⟨F, G, h1, h2, h3, h4, h5, h6, h7, h8⟩ := h
  exact ⟨G, F, h2, h1, fun k hg hf => h3 k hf hg, h5, h4, h6, h8, h7⟩
theorem Two.below (h : Two w0 w b c l m P) (hb : Below w.heap.size w w') : Two w0 w' b c l m P := by
  obtain ⟨F, G, h1, h2, h3, h4, h5, h6, h7, h8⟩ := h
  exact ⟨F, G, h1.pre hb, h2.pre hb, h3, h4, h5, h6.trans (hb.mono h6.size), h7.below hb, h8.below hb⟩
theorem Two.push (h : Two w0 w b c l m P) (o : Obj) : Two w0 (w.alloc o) b c l m ((w.heap.size, o) :: P) := by
  obtain ⟨F, G, h1, h2, h3, h4, h5, h6, h7, h8⟩ := h
  have hb : Below w.heap.size w (w.alloc o) := (Below.refl _ _).alloc (Nat.le_refl _) _
  exact ⟨F, G, h1.pre hb, h2.pre hb, h3, h4, h5, h6.trans (hb.mono h6.size), h7.push h1.bound o, h8.push h2.bound o⟩
theorem Two.kept (h : Two w0 w b c l m P) {k : Nat} {o : Obj} (hk : (k, o) ∈ P) : w.heap[k]? = some o := by
  obtain ⟨F, G, h1, h2, h3, h4, h5, h6, h7, h8⟩ := h
  exact (h7 _ hk).1
theorem Two.left1 (h : Two w0 w b c l m P) (hc : ∀ F, MailR w b l F → Calls Try.prog f args w fun e w' => R e ∧ Left w w' b l' F) : Calls Try.prog f args w fun e w' => R e ∧ Two w0 w' b c l' m P := by
  obtain ⟨F, G, h1, h2, h3, h4, h5, h6, h7, h8⟩ := h
  refine (hc F h1).mono fun e w' ⟨hR, hU, F', hF', hM⟩ => ⟨hR, F', G, hM, h2.upd hU (fun k hg hf => h3 k hf hg), fun k hf hg => ?_, fun k hf => ?_, h5, h6.trans (hU.toBelow h4 h6.size), h7.upd hU hF', h8.other h7 hU⟩
  · rcases hF' k hf with h' | h'
    · exact h3 k h' hg
    · have := h2.bound k hg; omega
  · rcases hF' k hf with h' | h'
    · exact h4 k h'
    · exact Nat.le_trans h6.size h'
theorem Two.left2 (h : Two w0 w b c l m P) {m' : List Ag} (hc : ∀ F, MailR w c m F → Calls Try.prog f args w fun e w' => R e ∧ Left w w' c m' F) : Calls Try.prog f args w fun e w' => R e ∧ Two w0 w' b c l m' P :=
  (h.symm.left1 hc).mono fun _ _ ⟨h1, h2⟩ => ⟨h1, h2.symm⟩
theorem Two.one (h : Two w0 w b c l m P) : ∃ F, MailR w b l F := by obtain ⟨F, G, h1, _⟩ := h; exact ⟨F, h1⟩
theorem Two.end (h : Two w0 w b c l m P) : Below w0.heap.size w0 w := by obtain ⟨F, G, h1, h2, h3, h4, h5, h6, h7, h8⟩ := h; exact h6
theorem One.end (h : One w0 w b l P) : Below w0.heap.size w0 w := by obtain ⟨F, h1, h4, h6, h7⟩ := h; exact h6
theorem One.one (h : One w0 w b l P) : ∃ F, MailR w b l F := by obtain ⟨F, h1, _⟩ := h; exact ⟨F, h1⟩
theorem One.below (h : One w0 w b l P) (hb : Below w.heap.size w w') : One w0 w' b l P := by
  obtain ⟨F, h1, h4, h6, h7⟩ := h
  exact ⟨F, h1.pre hb, h4, h6.trans (hb.mono h6.size), h7.below hb⟩
theorem One.kept (h : One w0 w b l P) {k : Nat} {o : Obj} (hk : (k, o) ∈ P) : w.heap[k]? = some o := by
  obtain ⟨F, h1, h4, h6, h7⟩ := h
  exact (h7 _ hk).1
theorem One.push (h : One w0 w b l P) (o : Obj) : One w0 (w.alloc o) b l ((w.heap.size, o) :: P) := by
  obtain ⟨F, h1, h4, h6, h7⟩ := h
  have hb : Below w.heap.size w (w.alloc o) := (Below.refl _ _).alloc (Nat.le_refl _) _
  exact ⟨F, h1.pre hb, h4, h6.trans (hb.mono h6.size), h7.push h1.bound o⟩
theorem One.left (h : One w0 w b l P) (hc : ∀ F, MailR w b l F → Calls Try.prog f args w fun e w' => R e ∧ Left w w' b l' F) : Calls Try.prog f args w fun e w' => R e ∧ One w0 w' b l' P := by
  obtain ⟨F, h1, h4, h6, h7⟩ := h
  refine (hc F h1).mono fun e w' ⟨hR, hU, F', hF', hM⟩ => ⟨hR, F', hM, fun k hf => ?_, h6.trans (hU.toBelow h4 h6.size), h7.upd hU hF'⟩
  rcases hF' k hf with h' | h'
  · exact h4 k h'
  · exact Nat.le_trans h6.size h'
theorem One.keep (h : One w0 w b l P) (hb : Below w.heap.size w w') {k : Nat} {o : Obj} (hk : w.heap.size ≤ k) (ho : w'.heap[k]? = some o) : One w0 w' b l ((k, o) :: P) := by
  obtain ⟨F, h1, h4, h6, h7⟩ := h
  refine ⟨F, h1.pre hb, h4, h6.trans (hb.mono h6.size), fun p hp => ?_⟩
  rcases List.mem_cons.1 hp with rfl | hp
  · exact ⟨ho, fun hf => by have := h1.bound _ hf; simp at this; omega⟩
  · exact h7.below hb p hp
theorem Two.keep (h : Two w0 w b c l m P) (hb : Below w.heap.size w w') {k : Nat} {o : Obj} (hk : w.heap.size ≤ k) (ho : w'.heap[k]? = some o) : Two w0 w' b c l m ((k, o) :: P) := by
  obtain ⟨F, G, h1, h2, h3, h4, h5, h6, h7, h8⟩ := h
  refine ⟨F, G, h1.pre hb, h2.pre hb, h3, h4, h5, h6.trans (hb.mono h6.size), fun p hp => ?_, fun p hp => ?_⟩
  · rcases List.mem_cons.1 hp with rfl | hp
    · exact ⟨ho, fun hf => by have := h1.bound _ hf; simp at this; omega⟩
    · exact h7.below hb p hp
  · rcases List.mem_cons.1 hp with rfl | hp
    · exact ⟨ho, fun hf => by have := h2.bound _ hf; simp at this; omega⟩
    · exact h8.below hb p hp
theorem One.poke {k : Nat} {cur : Array Value} {t : TypeId} (h : One w0 w b l [(k, .cells cur t (0, 0))]) (hk : w0.heap.size ≤ k) (j : Nat) (v : Value) : One w0 (w.setCell ⟨k, j, none⟩ v) b l [(k, .cells (cur.setIfInBounds j v) t (0, 0))] := by
  obtain ⟨F, h1, h4, h6, h7⟩ := h
  obtain ⟨ho, hF⟩ := h7 _ (List.mem_singleton.2 rfl)
  have hu : Upd (fun q => q = k) w (w.setCell ⟨k, j, none⟩ v) := (Upd.refl (fun q => q = k) w).setCell (p := ⟨k, j, none⟩) (.inl rfl) v
  refine ⟨F, h1.upd hu (fun q hq e => hF (by subst e; exact hq)), h4, h6.setCell hk _, fun p hp => ?_⟩
  rw [List.mem_singleton] at hp
  subst hp
  exact ⟨heap_setCell_same w k j cur t v ho, hF⟩
theorem new_one (w : World) : One w (w.alloc (.cells #[.slice none 0 0] 75)) w.heap.size [] [] :=
  ⟨fun k => k = w.heap.size, ⟨_, heap_alloc_new w _, World.ownsRow_nil _ _ _ _, rfl, fun g h => by simp [Value.ownBlock] at h, fun k hk => by subst hk; simp⟩, fun k hk => by omega, (Below.refl _ _).alloc (Nat.le_refl _) _, fun p hp => by cases hp⟩
theorem new_two (w : World) : Two w ((w.alloc (.cells #[.slice none 0 0] 75)).alloc (.cells #[.slice none 0 0] 75)) w.heap.size (w.heap.size + 1) [] [] [] :=
  ⟨fun k => k = w.heap.size, fun k => k = w.heap.size + 1, ⟨_, heap_alloc2_old w _ _, World.ownsRow_nil _ _ _ _, rfl, fun g h => by simp [Value.ownBlock] at h, fun k hk => by subst hk; simp; omega⟩,
    ⟨_, heap_alloc2_new w _ _, World.ownsRow_nil _ _ _ _, rfl, fun g h => by simp [Value.ownBlock] at h, fun k hk => by subst hk; simp⟩, fun k h1 h2 => by omega, fun k hk => by omega, fun k hk => by omega, ((Below.refl _ _).alloc (Nat.le_refl _) _).alloc (by simp) _, fun p hp => (by cases hp), fun p hp => (by cases hp)⟩
end

abbrev sA : ByteArray := ⟨#[97]⟩
abbrev sB : ByteArray := ⟨#[98]⟩

theorem ex1 : sendL [] 0 sA = [⟨0, sA, 0⟩] := by simp [sendL, ByteArray.size]
theorem ex2 : sendL [⟨0, sA, 0⟩] 0 sB = [⟨0, sA, 0⟩, ⟨0, sB, 0⟩] := by simp [sendL, ByteArray.size]
theorem ex3 : sendL [⟨0, sA, 0⟩, ⟨0, sB, 0⟩] 0 sA = [⟨0, sA, 0⟩, ⟨0, sB, 0⟩, ⟨0, sA, 0⟩] := by simp [sendL, ByteArray.size]
theorem ex4 : ageL 2 [⟨0, sA, 0⟩] = [⟨0, sA, 1⟩] := by simp [ageL, stays, lateB, inc]
theorem ex5 : sendL [⟨0, sA, 1⟩] 0 sB = [⟨0, sA, 1⟩, ⟨0, sB, 0⟩] := by simp [sendL, ByteArray.size]
theorem ex6 : ageL 2 [⟨0, sA, 1⟩, ⟨0, sB, 0⟩] = [⟨0, sA, 2⟩, ⟨0, sB, 1⟩] := by simp [ageL, stays, lateB, inc]
theorem ex7 : ageN 2 [⟨0, sA, 0⟩] = 0 := by simp [ageN, stays, lateB]
theorem ex8 : ageN 2 [⟨0, sA, 1⟩, ⟨0, sB, 0⟩] = 0 := by simp [ageN, stays, lateB]
theorem ex9 : ageN 2 [⟨0, sA, 2⟩, ⟨0, sB, 1⟩] = 1 := by simp [ageN, stays, lateB]
theorem ex10 : sameM ([⟨0, sA, 0⟩, ⟨0, sA, 0⟩].map msOf) [⟨0, sA⟩, ⟨0, sA⟩] = true := by simp [sameM, msOf]

theorem examples_calls (w : World) : Calls Try.prog 11 #[] w fun e w' => e = .returned (.bool true) ∧ Below w.heap.size w w' := by
  have hnew := fun W => new_calls W
  have T0 := new_two w
  go_enter Try.func11, Try.ntmps11
  go_wp2_with (go_at_call 12; refine (hnew _).mono ?_; rintro e w' ⟨rfl, rfl⟩)
  generalize (w.alloc (.cells #[.slice none 0 0] 75)).alloc (.cells #[.slice none 0 0] 75) = w1 at T0 ⊢
  refine (of_calls _ _).mono ?_; rintro e w2 ⟨rfl, hb⟩; have T1 := T0.below hb; clear hb T0
  go_wp2_with (fail)
  refine (T1.left1 fun F h => send_calls _ _ _ F _ sA h (by simp) (by decide)).mono ?_; rintro e w3 ⟨rfl, T2⟩; rw [ex1] at T2; clear T1
  go_wp2_with (fail)
  refine (of_calls _ _).mono ?_; rintro e w4 ⟨rfl, hb⟩; have T3 := T2.below hb; clear hb T2
  go_wp2_with (fail)
  refine (T3.left1 fun F h => send_calls _ _ _ F _ sB h (by simp) (by decide)).mono ?_; rintro e w5 ⟨rfl, T4⟩; rw [ex2] at T4; clear T3
  go_wp2_with (fail)
  refine (T4.left1 fun F h => twin_in _ _ _ F 0 ⟨0, sA, 0⟩ h (by simp) rfl (by decide)).mono ?_; rintro e w6 ⟨rfl, T5⟩; rw [ex3] at T5; clear T4
  go_wp2_with (fail)
  refine (T5.left1 fun F h => takeM_in _ _ _ F 1 ⟨0, sB, 0⟩ h (by simp) rfl).mono ?_; rintro e w7 ⟨rfl, T6⟩; rw [show [(⟨0, sA, 0⟩ : Ag), ⟨0, sB, 0⟩, ⟨0, sA, 0⟩].eraseIdx 1 = [⟨0, sA, 0⟩, ⟨0, sA, 0⟩] from rfl] at T6; clear T5
  go_wp2_with (fail)
  have T7 := T6.push (.cells #[.int .i64 0, .string sB] 32); clear T6
  generalize w7.alloc (.cells #[.int .i64 0, .string sB] 32) = w8 at T7 ⊢
  obtain ⟨F8, hF8⟩ := T7.one
  refine (all_calls _ _ _ F8 hF8 (by simp)).mono ?_; rintro e w9 ⟨va, rfl, hown9, _, hb9⟩; have T8 := T7.below hb9; clear hb9 T7 hF8
  go_wp2_with (fail)
  refine (of_calls _ _).mono ?_; rintro e w10 ⟨rfl, hb⟩; have T9 := T8.below hb; have hown10 := below_ownsRow hb hown9 (fun g h => (hown9.lt g h).2); clear hb T8 hown9
  go_wp2_with (fail)
  refine (of_calls _ _).mono ?_; rintro e w11 ⟨rfl, hb⟩; have T10 := T9.below hb; have hown11 := below_ownsRow hb hown10 (fun g h => (hown10.lt g h).2); clear hb T9 hown10
  go_wp2_with (fail)
  have T11 := T10.push (.cells #[.int .i64 0, .string sA, .int .i64 0, .string sA] 32); clear T10
  refine (messages_calls _ va _ ([⟨0, sA, 0⟩, ⟨0, sA, 0⟩].map msOf) [⟨0, sA⟩, ⟨0, sA⟩] (RowAt.of_own (hown11.alloc _)) (RowAt.of_own (World.ownsRow_lit (base := 0) w11 #[.int .i64 0, .string sA, .int .i64 0, .string sA] 2 (Nat.zero_le _) (by decide) rfl)) (by simp)).mono ?_
  rintro e w12 ⟨rfl, n, rfl⟩; rw [ex10]
  have T12 : Two w ((w11.alloc (.cells #[.int .i64 0, .string sA, .int .i64 0, .string sA] 32)).drewN n) _ _ _ _ _ := T11.below ⟨rfl, rfl, rfl, Nat.le_refl _, fun _ _ => rfl⟩
  clear T11 hown11
  generalize (w11.alloc (.cells #[.int .i64 0, .string sA, .int .i64 0, .string sA] 32)).drewN n = w12 at T12 ⊢
  go_wp2_with (fail)
  refine (of_calls _ _).mono ?_; rintro e w13 ⟨rfl, hb⟩; have T13 := T12.below hb; clear hb T12
  go_wp2_with (fail)
  refine (T13.left2 fun F h => send_calls _ _ _ F _ sA h (by simp) (by decide)).mono ?_; rintro e w14 ⟨rfl, T14⟩; rw [ex1] at T14; clear T13
  go_wp2_with (fail)
  refine (T14.left2 fun F h => age_calls _ _ _ F 2 h (by simp) (by simp)).mono ?_; rintro e w15 ⟨rfl, T15⟩; rw [ex4] at T15; rw [ex7]; clear T14
  go_wp2_with (fail)
  refine (of_calls _ _).mono ?_; rintro e w16 ⟨rfl, hb⟩; have T16 := T15.below hb; clear hb T15
  go_wp2_with (fail)
  refine (T16.left2 fun F h => send_calls _ _ _ F _ sB h (by simp) (by decide)).mono ?_; rintro e w17 ⟨rfl, T17⟩; rw [ex5] at T17; clear T16
  go_wp2_with (fail)
  refine (T17.left2 fun F h => age_calls _ _ _ F 2 h (by simp) (by simp)).mono ?_; rintro e w18 ⟨rfl, T18⟩; rw [ex6] at T18; rw [ex8]; clear T17
  go_wp2_with (fail)
  refine (T18.left2 fun F h => age_calls _ _ _ F 2 h (by simp) (by simp)).mono ?_; rintro e w19 ⟨rfl, T19⟩; rw [ex9]; clear T18
  have hx : w19.cell? ⟨w7.heap.size, 1, none⟩ = some (.string sB) := cell_of_blk (j := 1) (T19.kept (k := w7.heap.size) (List.mem_cons_of_mem _ (List.mem_singleton.2 rfl)))
  have hend := T19.end
  go_wp2_with (fail)
  go_ret
  exact ⟨rfl, hend⟩
end Go.Proofs.Ytdkebkalcelgpaa.Mail
