/- Taking a message out; sending one; how many there are. -/
import Derived.Test.YtdkebkalcelgpaaMd
namespace Go.Proofs.Ytdkebkalcelgpaa.Mail
open Go.RowKit

/-- What an operation on the mail at b leaves: the mail as told; nothing else of what was there has changed. -/
def Left (w w' : World) (b : Nat) (l : List Ag) (F : Nat → Prop) : Prop := Upd F w w' ∧ ∃ F' : Nat → Prop, (∀ k, F' k → F k ∨ w.heap.size ≤ k) ∧ MailR w' b l F'

theorem MailR.upd {w w' : World} {b : Nat} {l : List Ag} {F G : Nat → Prop} (h : MailR w b l F) (hu : Upd G w w') (hG : ∀ k, F k → ¬ G k) : MailR w' b l F := by
  obtain ⟨v, hb, hown, hFb, hFg, hFs⟩ := h
  exact ⟨v, hu.block_eq hb (hG b hFb), hu.ownsRow hown (fun g hg => hG g (hFg g hg)), hFb, hFg, fun k hk => Nat.lt_of_lt_of_le (hFs k hk) hu.size⟩

theorem take_calls (w : World) (b : Nat) (l : List Ag) (F : Nat → Prop) (hR : MailR w b l F) (hn : l.length ≤ 1000000) (i : Nat) (x : Ag) (hx : l[i]? = some x) :
    Calls Try.prog 40 #[.pointer (some ⟨b, 0, none⟩), .int .i64 (i : Int)] w fun e w' => e = .returned (.agg #[.int .i64 x.to, .string x.data]) ∧ Left w w' b (l.eraseIdx i) F := by
  obtain ⟨v, hb, hown, hFb, hFg, hFs⟩ := hR
  have hi := (List.getElem?_eq_some_iff.1 hx).1
  have hne := own_ne hb hown
  have hlt := hown.lt
  obtain ⟨g, cap, rfl, _, hgl⟩ := hown.form (by omega)
  have hgb : ¬ (b = g) := fun e => hne (by rw [e]; rfl)
  have hFg' : F g := hFg g rfl
  have hbl := lt_of_block hb
  obtain ⟨c0, c1, c2⟩ := own_cells hown hx
  have hcb := cell_of_one hb
  have hfb := free_of_one hb
  have hcap : l.length ≤ cap := by
    rcases hown.2 with ⟨h, _⟩ | ⟨g', cap', cur, h, _, _, h2, _⟩
    · simp at h
    · simp at h; omega
  have hd := fun (W : World) (h : W.ownsRow 0 79 3 (.slice (some ⟨g, 0, none⟩) l.length cap) l.length (flatA l)) => del_calls W l g cap i h hn hi
  have e1 : ¬ (w.heap.size = g) := by omega
  have e2 : ¬ (w.heap.size + 1 = g) := by omega
  have e3 : b < w.heap.size + 1 + 1 := by omega
  have e4 : g < w.heap.size + 1 := by omega
  have e5 : b < w.heap.size + 1 := by omega
  have Hx := Lib.hid hx; clear hx
  have Hb := Lib.hid hb; clear hb
  have HFs := Lib.hid hFs; clear hFs
  clear hlt hne hFg
  go_enter Try.func40, Try.ntmps40
  go_wp2_with (go_at_call 50; refine (hd _ ((hown.alloc _).alloc _)).mono ?_; rintro e w1 ⟨rfl, hown1, hupd1⟩; obtain ⟨hc1, hf1⟩ := hupd1.cells)
  have hr1 : w1.heap[w.heap.size]? = some (.cells #[.int .i64 0, .string ByteArray.empty] 32 (0, 0)) := hupd1.block_eq (heap_alloc2_old w _ _) e1
  have hr2 := heap_setCell_same _ _ 1 _ _ (.string x.data) (heap_setCell_same _ _ 0 _ _ (.int .i64 x.to) ((heap_setCell_other w1 ⟨b, 0, none⟩ _ (.slice (some ⟨g, 0, none⟩) (l.length - 1) cap) (show w.heap.size ≠ b by omega)).trans hr1))
  refine bodyPost_ret (results_cell_row rfl _ _ w.heap.size _ _ _ _ rfl hr2 Try.underlying32 rfl (by kernel_rfl)) rfl ⟨rfl, ?_⟩
  have hs1 := hupd1.size
  simp only [World.size_alloc] at hs1
  have hb1 : w1.heap[b]? = some (.cells #[.slice (some ⟨g, 0, none⟩) l.length cap] 75 (0, 0)) := hupd1.block_eq ((heap_alloc_old _ _ (by simp; omega)).trans ((heap_alloc_old _ _ hbl).trans Hb.out)) hgb
  have hM : MailR (w1.setCell ⟨b, 0, none⟩ (.slice (some ⟨g, 0, none⟩) (l.length - 1) cap)) b (l.eraseIdx i) F :=
    ⟨_, one_setCell hb1, ownsRow_setCell_other hown1 (by simp [Value.ownBlock]; exact fun h => hgb h.symm) _, hFb, fun k hk => by simp [Value.ownBlock] at hk; exact hk ▸ hFg', fun k hk => by have := HFs.out k hk; simp [World.setCell]; omega⟩
  have hU : Upd F w (w1.setCell ⟨b, 0, none⟩ (.slice (some ⟨g, 0, none⟩) (l.length - 1) cap)) := ((((Upd.refl F w).alloc _).alloc _).trans' hupd1 (fun k hk => .inl (hk ▸ hFg'))).setCell (.inl hFb) _
  refine ⟨(hU.setCell (.inr (Nat.le_refl _)) _).setCell (.inr (Nat.le_refl _)) _, F, fun k hk => .inl hk, hM.upd (G := fun k => k = w.heap.size) (((Upd.refl (fun k => k = w.heap.size) _).setCell (p := ⟨w.heap.size, 0, none⟩) (.inl rfl) _).setCell (p := ⟨w.heap.size, 1, none⟩) (.inl rfl) _) fun k hk e => ?_⟩
  have := HFs.out k hk
  omega
end Go.Proofs.Ytdkebkalcelgpaa.Mail
