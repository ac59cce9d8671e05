/- MailPlays: the contracts in one form for all numbers; the mail and the document's mail side by side. -/
import Derived.Test.YtdkebkalcelgpaaMp
namespace Go.Proofs.Ytdkebkalcelgpaa.Mail
open Go.RowKit

/-- The message that number n speaks of. -/
def atI (l : List Ag) (n : Int) : Option (Nat × Ag) := if 0 ≤ n then l[n.toNat]?.map fun x => (n.toNat, x) else none
theorem atI_some {l : List Ag} {n : Int} {p : Nat × Ag} (h : atI l n = some p) : n = (p.1 : Int) ∧ l[p.1]? = some p.2 := by
  unfold atI at h
  split at h
  · obtain ⟨x, hx, rfl⟩ := Option.map_eq_some_iff.1 h
    exact ⟨by simp; omega, hx⟩
  · cases h
theorem atI_none {l : List Ag} {n : Int} (h : atI l n = none) : n < 0 ∨ (l.length : Int) ≤ n := by
  unfold atI at h
  split at h
  · have := Option.map_eq_none_iff.1 h
    have := List.getElem?_eq_none_iff.1 this
    omega
  · omega
def takeX (l : List Ag) (n : Int) : Ms := match atI l n with | some p => msOf p.2 | none => ⟨0, ByteArray.empty⟩
def takeB (l : List Ag) (n : Int) : Bool := (atI l n).isSome
def takeL (l : List Ag) (n : Int) : List Ag := match atI l n with | some p => l.eraseIdx p.1 | none => l
def twinE (l : List Ag) (n : Int) : Int := match atI l n with | some p => sendE l p.2.data | none => 5
def twinL (l : List Ag) (n : Int) : List Ag := match atI l n with | some p => sendL l p.2.to p.2.data | none => l

section
variable {w : World} {b : Nat} {l : List Ag} {F : Nat → Prop}
theorem take_any (n : Int) (hR : MailR w b l F) (hn : l.length ≤ 1000000) : Calls Try.prog 16 #[.pointer (some ⟨b, 0, none⟩), .int .i64 n] w fun e w' => e = .returned (.tuple #[.agg #[.int .i64 (takeX l n).to, .string (takeX l n).data], .bool (takeB l n)]) ∧ Left w w' b (takeL l n) F := by
  unfold takeX takeB takeL
  cases h : atI l n with
  | none => exact takeM_out w b l F n hR hn (atI_none h)
  | some p =>
    obtain ⟨rfl, hx⟩ := atI_some h
    exact takeM_in w b l F p.1 p.2 hR hn hx
theorem rtake_any (n : Int) (hR : RefR w b l F) (hn : l.length ≤ 1000000) : Calls Try.prog 17 #[.pointer (some ⟨b, 0, none⟩), .int .i64 n] w fun e w' => e = .returned (.tuple #[.agg #[.int .i64 (takeX l n).to, .string (takeX l n).data], .bool (takeB l n)]) ∧ RLeft w w' b (takeL l n) F := by
  unfold takeX takeB takeL
  cases h : atI l n with
  | none => exact rtake_out w b l F n hR hn (atI_none h)
  | some p =>
    obtain ⟨rfl, hx⟩ := atI_some h
    exact rtake_in w b l F p.1 p.2 hR hn hx
theorem twin_any (n : Int) (hR : MailR w b l F) (hn : l.length ≤ 1000000) (hd : ∀ x ∈ l, x.data.size ≤ maxLen) : Calls Try.prog 18 #[.pointer (some ⟨b, 0, none⟩), .int .i64 n] w fun e w' => e = .returned (.int .i64 (twinE l n)) ∧ Left w w' b (twinL l n) F := by
  unfold twinE twinL
  cases h : atI l n with
  | none => exact twin_out w b l F n hR hn (atI_none h)
  | some p =>
    obtain ⟨rfl, hx⟩ := atI_some h
    exact twin_in w b l F p.1 p.2 hR hn hx (hd _ (List.mem_of_getElem? hx))
theorem rtwin_any (n : Int) (hR : RefR w b l F) (hn : l.length ≤ 1000000) (hd : ∀ x ∈ l, x.data.size ≤ maxLen) : Calls Try.prog 19 #[.pointer (some ⟨b, 0, none⟩), .int .i64 n] w fun e w' => e = .returned (.int .i64 (twinE l n)) ∧ RLeft w w' b (twinL l n) F := by
  unfold twinE twinL
  cases h : atI l n with
  | none => exact rtwin_out w b l F n hR hn (atI_none h)
  | some p =>
    obtain ⟨rfl, hx⟩ := atI_some h
    exact rtwin_in w b l F p.1 p.2 hR hn hx (hd _ (List.mem_of_getElem? hx))
end

theorem len_still {w : World} {b : Nat} {l : List Ag} {F : Nat → Prop} (hR : MailR w b l F) (n : Nat) : Calls Try.prog 24 #[.pointer (some ⟨b, 0, none⟩)] (w.drewN n) fun e w' => e = .returned (.int .i64 (l.length : Int)) ∧ w' = w.drewN n :=
  (len_calls (w.drewN n) b l F hR).mono fun _ _ ⟨h1, h2⟩ => ⟨h1, h2.symm⟩

/-- What stays so behind k deeds. -/
structure Good (k : Nat) (l : List Ag) : Prop where
  len : l.length ≤ 50
  age : ∀ x ∈ l, 0 ≤ x.age ∧ x.age ≤ k
  data : ∀ x ∈ l, x.data.size ≤ 4000
theorem Good.up {k : Nat} {l : List Ag} (h : Good k l) : Good (k + 1) l := ⟨h.len, fun x hx => by have := h.age x hx; omega, h.data⟩
theorem Good.send {k : Nat} {l : List Ag} (h : Good k l) (to : Int) (d : ByteArray) : Good k (sendL l to d) := by
  unfold sendL
  split
  · exact h
  · rename_i hc
    have hc1 : l.length < 50 := by omega
    have hc2 : d.size ≤ 4000 := by omega
    refine ⟨by simp; omega, fun x hx => ?_, fun x hx => ?_⟩ <;> rcases List.mem_append.1 hx with hx | hx
    · exact h.age x hx
    · simp at hx; subst hx; simp
    · exact h.data x hx
    · simp at hx; subst hx; exact hc2
theorem Good.sub {k : Nat} {l l' : List Ag} (h : Good k l) (hl : l'.length ≤ l.length) (hs : ∀ x ∈ l', x ∈ l) : Good k l' := ⟨Nat.le_trans hl h.len, fun x hx => h.age x (hs x hx), fun x hx => h.data x (hs x hx)⟩
theorem Good.take {k : Nat} {l : List Ag} (h : Good k l) (n : Int) : Good k (takeL l n) := by
  unfold takeL
  split
  · exact h.sub (List.length_eraseIdx_le _ _) fun x hx => List.mem_of_mem_eraseIdx hx
  · exact h
theorem Good.twin {k : Nat} {l : List Ag} (h : Good k l) (n : Int) : Good k (twinL l n) := by
  unfold twinL
  split
  · exact h.send _ _
  · exact h
theorem Good.tick {k : Nat} {l : List Ag} (h : Good k l) (n : Int) : Good (k + 1) (ageL n l) := by
  unfold ageL
  refine ⟨by simp; exact Nat.le_trans (List.length_filter_le _ _) h.len, fun x hx => ?_, fun x hx => ?_⟩ <;> obtain ⟨y, hy, rfl⟩ := List.mem_map.1 hx <;> have hy' := (List.mem_filter.1 hy).1
  · have := h.age y hy'; simp only [inc]; omega
  · exact h.data y hy'
theorem Good.small {k : Nat} {l : List Ag} (h : Good k l) : l.length ≤ 1000000 := by have := h.len; omega
theorem Good.bytes {k : Nat} {l : List Ag} (h : Good k l) : ∀ x ∈ l, x.data.size ≤ maxLen := fun x hx => by have := h.data x hx; unfold maxLen; omega

/-- The mail and the document's mail, each in memory of its own; w0 is the world ahead of them; beside them the blocks P. -/
structure PairX (w0 w : World) (b c : Nat) (l m : List Ag) (P : List (Nat × Obj)) (F G : Nat → Prop) : Prop where
  mail : MailR w b l F
  ref : RefR w c m G
  dis : ∀ k, F k → ¬ G k
  F0 : ∀ k, F k → w0.heap.size ≤ k
  G0 : ∀ k, G k → w0.heap.size ≤ k
  bel : Below w0.heap.size w0 w
  kF : Keeps w F P
  kG : Keeps w G P
def Pair (w0 w : World) (b c : Nat) (l m : List Ag) (P : List (Nat × Obj)) : Prop := ∃ F G, PairX w0 w b c l m P F G

section
variable {w0 w w' : World} {b c : Nat} {l m l' m' : List Ag} {f : FuncId} {args : Array Value} {R : Ending → Prop} {F G : Nat → Prop} {P : List (Nat × Obj)}
theorem PairX.below (h : PairX w0 w b c l m P F G) (hb : Below w.heap.size w w') : PairX w0 w' b c l m P F G := ⟨h.mail.pre hb, h.ref.pre hb, h.dis, h.F0, h.G0, h.bel.trans (hb.mono h.bel.size), h.kF.below hb, h.kG.below hb⟩
theorem Pair.below (h : Pair w0 w b c l m P) (hb : Below w.heap.size w w') : Pair w0 w' b c l m P := by obtain ⟨F, G, h⟩ := h; exact ⟨F, G, h.below hb⟩
theorem Pair.push (h : Pair w0 w b c l m P) (o : Obj) : Pair w0 (w.alloc o) b c l m ((w.heap.size, o) :: P) := by
  obtain ⟨F, G, h⟩ := h
  have hb : Below w.heap.size w (w.alloc o) := (Below.refl _ _).alloc (Nat.le_refl _) _
  exact ⟨F, G, h.mail.pre hb, h.ref.pre hb, h.dis, h.F0, h.G0, h.bel.trans (hb.mono h.bel.size), h.kF.push h.mail.bound o, h.kG.push h.ref.bound o⟩
theorem Pair.forget (h : Pair w0 w b c l m P) : Pair w0 w b c l m [] := by
  obtain ⟨F, G, h⟩ := h
  exact ⟨F, G, h.mail, h.ref, h.dis, h.F0, h.G0, h.bel, fun p hp => (by cases hp), fun p hp => (by cases hp)⟩
theorem Pair.kept (h : Pair w0 w b c l m P) {k : Nat} {o : Obj} (hk : (k, o) ∈ P) : w.heap[k]? = some o := by
  obtain ⟨F, G, h⟩ := h
  exact (h.kF _ hk).1
theorem Pair.bel (h : Pair w0 w b c l m P) : Below w0.heap.size w0 w := by obtain ⟨F, G, h⟩ := h; exact h.bel
theorem PairX.poke (h : PairX w0 w b c l m [] F G) {k : Nat} (hF : ¬ F k) (hG : ¬ G k) (h0 : w0.heap.size ≤ k) (j : Nat) (v : Value) : PairX w0 (w.setCell ⟨k, j, none⟩ v) b c l m [] F G := by
  have hu : Upd (fun q => q = k) w (w.setCell ⟨k, j, none⟩ v) := (Upd.refl (fun q => q = k) w).setCell (p := ⟨k, j, none⟩) (.inl rfl) v
  exact ⟨h.mail.upd hu (fun q hq e => hF (e ▸ hq)), h.ref.upd hu (fun q hq e => hG (e ▸ hq)), h.dis, h.F0, h.G0, h.bel.setCell h0 _, fun p hp => (by cases hp), fun p hp => (by cases hp)⟩
theorem Pair.left1 (h : Pair w0 w b c l m P) (hc : ∀ F, MailR w b l F → Calls Try.prog f args w fun e w' => R e ∧ Left w w' b l' F) : Calls Try.prog f args w fun e w' => R e ∧ Pair w0 w' b c l' m P := by
  obtain ⟨F, G, h⟩ := h
  refine (hc F h.mail).mono fun e w' ⟨hR, hU, F', hF', hM⟩ => ⟨hR, F', G, hM, h.ref.upd hU (fun k hg hf => h.dis k hf hg), fun k hf hg => ?_, fun k hf => ?_, h.G0, h.bel.trans (hU.toBelow h.F0 h.bel.size), h.kF.upd hU hF', h.kG.other h.kF hU⟩
  · rcases hF' k hf with h' | h'
    · exact h.dis k h' hg
    · have := h.ref.bound k hg; omega
  · rcases hF' k hf with h' | h'
    · exact h.F0 k h'
    · exact Nat.le_trans h.bel.size h'
theorem Pair.left2 (h : Pair w0 w b c l m P) (hc : ∀ F, RefR w c m F → Calls Try.prog f args w fun e w' => R e ∧ RLeft w w' c m' F) : Calls Try.prog f args w fun e w' => R e ∧ Pair w0 w' b c l m' P := by
  obtain ⟨F, G, h⟩ := h
  refine (hc G h.ref).mono fun e w' ⟨hR, hU, G', hG', hM⟩ => ⟨hR, F, G', h.mail.upd hU (fun k hf hg => h.dis k hf hg), hM, fun k hf hg => ?_, h.F0, fun k hf => ?_, h.bel.trans (hU.toBelow h.G0 h.bel.size), h.kF.other h.kG hU, h.kG.upd hU hG'⟩
  · rcases hG' k hg with h' | h'
    · exact h.dis k hf h'
    · have := h.mail.bound k hf; omega
  · rcases hG' k hf with h' | h'
    · exact h.G0 k h'
    · exact Nat.le_trans h.bel.size h'
theorem new_pair (w : World) : Pair w ((w.alloc (.cells #[.slice none 0 0] 75)).alloc (.cells #[.slice none 0 0, .slice none 0 0] 30)) w.heap.size (w.heap.size + 1) [] [] [] :=
  ⟨fun k => k = w.heap.size, fun k => k = w.heap.size + 1, ⟨_, heap_alloc2_old w _ _, World.ownsRow_nil _ _ _ _, rfl, fun g h => by simp [Value.ownBlock] at h, fun k hk => by subst hk; simp; omega⟩,
    ⟨_, _, heap_alloc2_new w _ _, World.ownsRow_nil _ _ _ _, World.ownsRow_nil _ _ _ _, rfl, fun g h => by simp [Value.ownBlock] at h, fun g h => by simp [Value.ownBlock] at h, fun k hk => by subst hk; simp⟩, fun k h1 h2 => by omega, fun k hk => by omega, fun k hk => by omega, ((Below.refl _ _).alloc (Nat.le_refl _) _).alloc (by simp) _, fun p hp => (by cases hp), fun p hp => (by cases hp)⟩
end
end Go.Proofs.Ytdkebkalcelgpaa.Mail
