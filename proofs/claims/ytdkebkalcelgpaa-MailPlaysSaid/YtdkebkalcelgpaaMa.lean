/- The mail's own functions: what each call leaves. -/
import Derived.Test.YtdkebkalcelgpaaK
namespace Go.Proofs.Ytdkebkalcelgpaa.Mail
open Go.RowKit

structure Ag where
  to : Int
  data : ByteArray
  age : Int

def encA (x : Ag) : List Value := [.int .i64 x.to, .string x.data, .int .i64 x.age]
def flatA (l : List Ag) : List Value := l.flatMap encA
theorem encA_len (x : Ag) : (encA x).length = 3 := rfl
theorem flatA_len (l : List Ag) : (flatA l).length = l.length * 3 := flat_length encA 3 encA_len l
theorem flatA_snoc (l : List Ag) (x : Ag) : flatA (l ++ [x]) = flatA l ++ encA x := by simp [flatA]

theorem info79 : (Try.prog.info? 79).map (fun i => (i.zero, i.size, i.bytes)) = some (some (.agg #[.int .i64 0, .string ByteArray.empty, .int .i64 0]), 3, 32) := by kernel_rfl
theorem et79 : ET Try.prog 71 79 3 32 := ET.of Try.underlying71 info79 rfl (by decide) (by simp [Value.cells, Value.oneCell'])

/-- The mail at block b holds l; its memory is F. -/
def MailR (w : World) (b : Nat) (l : List Ag) (F : Nat → Prop) : Prop :=
  ∃ v, w.heap[b]? = some (.cells #[v] 75 (0, 0)) ∧ w.ownsRow 0 79 3 v l.length (flatA l) ∧ F b ∧ (∀ g, v.ownBlock = some g → F g) ∧ (∀ k, F k → k < w.heap.size)

theorem own_ne {w : World} {b : Nat} {v u : Value} {n : Nat} {xs : List Value} (hb : w.heap[b]? = some (.cells #[u] 75 (0, 0))) (ho : w.ownsRow 0 79 3 v n xs) : v.ownBlock ≠ some b := by
  intro h
  rcases ho.2 with ⟨rfl, _⟩ | ⟨g, cap, cur, rfl, _, hg, _⟩
  · simp [Value.ownBlock] at h
  · simp [Value.ownBlock] at h
    subst h
    rw [hb] at hg
    simp at hg

theorem put_close {w w0 w1 : World} {b : Nat} {l : List Ag} {F : Nat → Prop} {x : Ag} {v : Value} {g cap : Nat} (hb : w.heap[b]? = some (.cells #[v] 75 (0, 0)))
    (hFb : F b) (hFg : ∀ g, v.ownBlock = some g → F g) (hFs : ∀ k, F k → k < w.heap.size) (hne : v.ownBlock ≠ some b) (hu : Upd F w w0)
    (hown1 : w1.ownsRow 0 79 3 (.slice (some ⟨g, 0, none⟩) (l.length + 1) cap) (l.length + 1) (flatA l ++ encA x)) (hgrow : w0.grownBy w1 v.ownBlock)
    (hb1 : w1.heap[b]? = some (.cells #[v] 75 (0, 0))) (hat : v.ownBlock = some g ∨ g = w0.heap.size) (hlt : g < w1.heap.size) :
    Upd F w (w1.setCell ⟨b, 0, none⟩ (.slice (some ⟨g, 0, none⟩) (l.length + 1) cap)) ∧ ∃ F' : Nat → Prop, (∀ k, F' k → F k ∨ w.heap.size ≤ k) ∧
      MailR (w1.setCell ⟨b, 0, none⟩ (.slice (some ⟨g, 0, none⟩) (l.length + 1) cap)) b (l ++ [x]) F' := by
  have hs0 := hu.size
  have hs1 := hgrow.size
  have hbl := lt_of_block hb
  have hgF : F g ∨ w.heap.size ≤ g := by
    rcases hat with h | h
    · exact .inl (hFg g h)
    · exact .inr (by omega)
  have hgb : g ≠ b := by
    rcases hat with h | h
    · exact fun e => hne (by rw [h, e])
    · omega
  refine ⟨(hu.grown hgrow fun k hk => .inl (hFg k hk)).setCell (.inl hFb) _, fun k => F k ∨ k = g, fun k hk => ?_, _, one_setCell hb1, ?_, .inl hFb, fun k hk => ?_, fun k hk => ?_⟩
  · rcases hk with hk | rfl
    · exact .inl hk
    · exact hgF
  · have := ownsRow_setCell_other (a := ⟨b, 0, none⟩) hown1 (by simp [Value.ownBlock]; exact hgb) (.slice (some ⟨g, 0, none⟩) (l.length + 1) cap)
    simpa [flatA_snoc] using this
  · simp [Value.ownBlock] at hk
    exact .inr hk.symm
  · simp only [World.setCell, Array.size_modify]
    rcases hk with hk | rfl
    · have := hFs k hk; omega
    · exact hlt

theorem put_calls (w : World) (b : Nat) (l : List Ag) (F : Nat → Prop) (to : Int) (d : ByteArray) (hR : MailR w b l F) (hn : l.length ≤ 1000000) :
    Calls Try.prog 39 #[.pointer (some ⟨b, 0, none⟩), .agg #[.int .i64 to, .string d]] w fun e w' => e = .returned (.tuple #[]) ∧
      Upd F w w' ∧ ∃ F' : Nat → Prop, (∀ k, F' k → F k ∨ w.heap.size ≤ k) ∧ MailR w' b (l ++ [⟨to, d, 0⟩]) F' := by
  obtain ⟨v, hb, hown, hFb, hFg, hFs⟩ := hR
  have hne := own_ne hb hown
  have hc := cell_of_one hb
  have hf := free_of_one hb
  have hbl := lt_of_block hb
  go_enter Try.func39, Try.ntmps39
  go_wp2
  go_region_law (refine et79.step1 (v := v) (n := l.length) (xs := flatA l) ((hown.alloc _).alloc _) (heap_alloc2_new w _ _) rfl (by simp [Value.oneCell']) (by omega) (by unfold maxLen; omega) rfl (.tmp 8) (.tmp 11) rfl rfl rfl ?_; intro g cap w1 hown1 hgrow hat hlt; have hb1 : w1.heap[b]? = some (.cells #[v] 75 (0, 0)) := (hgrow.block b (by simp; omega) (fun h => hne h.symm)).trans (((heap_alloc_old _ _ (by simp; omega)).trans (heap_alloc_old _ _ hbl)).trans hb); have hc1 := cell_of_one hb1; have hf1 := free_of_one hb1)
  all_goals
    go_wp2
    go_end0
    exact ⟨rfl, put_close (x := ⟨to, d, 0⟩) hb hFb hFg hFs hne (((Upd.refl F w).alloc _).alloc _).drew hown1 hgrow hb1 hat hlt⟩
end Go.Proofs.Ytdkebkalcelgpaa.Mail
