/- The mail's exported functions. -/
import Derived.Test.YtdkebkalcelgpaaMe
namespace Go.Proofs.Ytdkebkalcelgpaa.Mail
open Go.RowKit

theorem Left.refl {w : World} {b : Nat} {l : List Ag} {F : Nat → Prop} (h : MailR w b l F) : Left w w b l F := ⟨Upd.refl F w, F, fun _ hk => .inl hk, h⟩
theorem Left.pre {w w1 w2 : World} {b : Nat} {l : List Ag} {F : Nat → Prop} (h : Upd F w w1) (k : Left w1 w2 b l F) : Left w w2 b l F := by
  obtain ⟨hu, F', hF, hM⟩ := k
  exact ⟨h.trans hu, F', fun k hk => (hF k hk).imp id (fun h' => Nat.le_trans h.size h'), hM⟩
theorem MailR.pre {w w1 : World} {b : Nat} {l : List Ag} {F : Nat → Prop} (h : MailR w b l F) (hu : Below w.heap.size w w1) : MailR w1 b l F := h.upd (Upd.of_below hu (fun _ => False)) (fun _ _ h => h)
theorem MailR.lt {w : World} {b : Nat} {l : List Ag} {F : Nat → Prop} (h : MailR w b l F) : b < w.heap.size := by
  obtain ⟨v, hb, _⟩ := h
  exact lt_of_block hb
theorem MailR.cell {w : World} {b : Nat} {l : List Ag} {F : Nat → Prop} (h : MailR w b l F) : ∃ ao cap, w.cell? ⟨b, 0, none⟩ = some (.slice ao l.length cap) ∧ l.length ≤ cap := by
  obtain ⟨v, hb, hown, _⟩ := h
  rcases hown.2 with ⟨rfl, h0⟩ | ⟨g, cap, cur, rfl, _, _, h2, _⟩
  · exact ⟨none, 0, by rw [h0]; exact cell_of_one hb, by omega⟩
  · exact ⟨_, cap, cell_of_one hb, h2⟩

theorem new_calls (w : World) : Calls Try.prog 12 #[] w fun e w' => e = .returned (.pointer (some ⟨w.heap.size, 0, none⟩)) ∧ w' = w.alloc (.cells #[.slice none 0 0] 75) := by
  go_enter Try.func12, Try.ntmps12
  go_wp2
  go_ret
  exact ⟨rfl, rfl⟩

theorem len_calls (w : World) (b : Nat) (l : List Ag) (F : Nat → Prop) (hR : MailR w b l F) : Calls Try.prog 24 #[.pointer (some ⟨b, 0, none⟩)] w fun e w' => e = .returned (.int .i64 (l.length : Int)) ∧ w = w' := by
  obtain ⟨ao, cap, hc, _⟩ := hR.cell
  go_enter Try.func24, Try.ntmps24
  go_wp2
  go_ret
  exact ⟨rfl, rfl⟩

theorem send_full (w : World) (b : Nat) (l : List Ag) (F : Nat → Prop) (to : Int) (d : ByteArray) (hR : MailR w b l F) (hn : l.length ≤ 1000000) (hf : 50 ≤ l.length ∨ 4000 < d.size) (hd : d.size ≤ maxLen) :
    Calls Try.prog 14 #[.pointer (some ⟨b, 0, none⟩), .agg #[.int .i64 to, .string d]] w fun e w' => e = .returned (.int .i64 4) ∧ Left w w' b l F := by
  have hA : Upd F w (w.alloc (.cells #[.int .i64 to, .string d] 32)) := (Upd.refl F w).alloc _
  have hM : MailR (w.alloc (.cells #[.int .i64 to, .string d] 32)) b l F := hR.pre ((Below.refl _ _).alloc (Nat.le_refl _) _)
  have hl := len_calls _ b l F hM
  unfold maxLen at hd
  have hend : Left w (w.alloc (.cells #[.int .i64 to, .string d] 32)) b l F := Left.pre hA (Left.refl hM)
  clear hR hA hM
  by_cases h50 : 50 ≤ l.length
  · go_enter Try.func14, Try.ntmps14
    go_wp2_with (go_at_call 24; refine hl.mono ?_; rintro e w1 ⟨rfl, rfl⟩)
    go_ret
    exact ⟨rfl, hend⟩
  · have h4 : 4000 < d.size := by omega
    go_enter Try.func14, Try.ntmps14
    go_wp2_with (go_at_call 24; refine hl.mono ?_; rintro e w1 ⟨rfl, rfl⟩)
    go_ret
    exact ⟨rfl, hend⟩

theorem send_ok (w : World) (b : Nat) (l : List Ag) (F : Nat → Prop) (to : Int) (d : ByteArray) (hR : MailR w b l F) (h50 : l.length < 50) (h4 : d.size ≤ 4000) :
    Calls Try.prog 14 #[.pointer (some ⟨b, 0, none⟩), .agg #[.int .i64 to, .string d]] w fun e w' => e = .returned (.int .i64 0) ∧ Left w w' b (l ++ [⟨to, d, 0⟩]) F := by
  have hA : Upd F w (w.alloc (.cells #[.int .i64 to, .string d] 32)) := (Upd.refl F w).alloc _
  have hM : MailR (w.alloc (.cells #[.int .i64 to, .string d] 32)) b l F := hR.pre ((Below.refl _ _).alloc (Nat.le_refl _) _)
  have hl := len_calls _ b l F hM
  have hp := put_calls (w.alloc (.cells #[.int .i64 to, .string d] 32)).drew b l F to d hM (by omega)
  have hA' := hA.drew
  clear hR hA hM
  go_enter Try.func14, Try.ntmps14
  go_wp2_with (go_at_call 24; refine hl.mono ?_; rintro e w1 ⟨rfl, rfl⟩)
  go_region_with (go_at_call 39; refine hp.mono ?_; rintro e w1 ⟨rfl, hL⟩)
  all_goals
    go_wp2
    go_ret
    exact ⟨rfl, Left.pre hA' hL⟩

/-- What Send answers, and what the mail is behind it. -/
def sendE (l : List Ag) (d : ByteArray) : Int := if 50 ≤ l.length ∨ 4000 < d.size then 4 else 0
def sendL (l : List Ag) (to : Int) (d : ByteArray) : List Ag := if 50 ≤ l.length ∨ 4000 < d.size then l else l ++ [⟨to, d, 0⟩]
theorem send_calls (w : World) (b : Nat) (l : List Ag) (F : Nat → Prop) (to : Int) (d : ByteArray) (hR : MailR w b l F) (hn : l.length ≤ 1000000) (hd : d.size ≤ maxLen) :
    Calls Try.prog 14 #[.pointer (some ⟨b, 0, none⟩), .agg #[.int .i64 to, .string d]] w fun e w' => e = .returned (.int .i64 (sendE l d)) ∧ Left w w' b (sendL l to d) F := by
  by_cases h : 50 ≤ l.length ∨ 4000 < d.size
  · have := send_full w b l F to d hR hn h hd
    simpa [sendE, sendL, h] using this
  · have := send_ok w b l F to d hR (by omega) (by omega)
    simpa [sendE, sendL, h] using this

theorem takeM_out (w : World) (b : Nat) (l : List Ag) (F : Nat → Prop) (i : Int) (hR : MailR w b l F) (hn : l.length ≤ 1000000) (hi : i < 0 ∨ l.length ≤ i) :
    Calls Try.prog 16 #[.pointer (some ⟨b, 0, none⟩), .int .i64 i] w fun e w' => e = .returned (.tuple #[.agg #[.int .i64 0, .string ByteArray.empty], .bool false]) ∧ Left w w' b l F := by
  have hA : Upd F w (w.alloc (.cells #[.int .i64 0, .string ByteArray.empty] 32)) := (Upd.refl F w).alloc _
  have hM : MailR (w.alloc (.cells #[.int .i64 0, .string ByteArray.empty] 32)) b l F := hR.pre ((Below.refl _ _).alloc (Nat.le_refl _) _)
  have hl := len_calls _ b l F hM
  have hend : Left w (w.alloc (.cells #[.int .i64 0, .string ByteArray.empty] 32)) b l F := Left.pre hA (Left.refl hM)
  clear hR hA hM
  rcases hi with hi | hi
  · go_enter Try.func16, Try.ntmps16
    go_wp2_with (go_at_call 24; refine hl.mono ?_; rintro e w1 ⟨rfl, rfl⟩)
    refine bodyPost_ret (results_cell_tmp rfl _ _ w.heap.size _ _ _ rfl (heap_alloc_new w _) Try.underlying32 rfl (by kernel_rfl)) rfl ⟨rfl, hend⟩
  · have hi0 : ¬ i < 0 := by omega
    go_enter Try.func16, Try.ntmps16
    go_wp2_with (go_at_call 24; refine hl.mono ?_; rintro e w1 ⟨rfl, rfl⟩)
    refine bodyPost_ret (results_cell_tmp rfl _ _ w.heap.size _ _ _ rfl (heap_alloc_new w _) Try.underlying32 rfl (by kernel_rfl)) rfl ⟨rfl, hend⟩

theorem Left.off {w wA w1 w2 : World} {b R : Nat} {l : List Ag} {F : Nat → Prop} (hA : Upd F w wA) (h : Left wA w1 b l F) (hu : Upd (fun k => k = R) w1 w2) (hR : w.heap.size ≤ R) (hRA : R < wA.heap.size) (hRF : ¬ F R) : Left w w2 b l F := by
  obtain ⟨hU, F', hF, hM⟩ := h
  refine ⟨(hA.trans hU).trans' hu (fun k hk => .inr (hk ▸ hR)), F', fun k hk => (hF k hk).imp id (fun h' => Nat.le_trans hA.size h'), hM.upd hu fun k hk e => ?_⟩
  subst e
  rcases hF k hk with h' | h'
  · exact hRF h'
  · omega

theorem takeM_in (w : World) (b : Nat) (l : List Ag) (F : Nat → Prop) (i : Nat) (x : Ag) (hR : MailR w b l F) (hn : l.length ≤ 1000000) (hx : l[i]? = some x) :
    Calls Try.prog 16 #[.pointer (some ⟨b, 0, none⟩), .int .i64 (i : Int)] w fun e w' => e = .returned (.tuple #[.agg #[.int .i64 x.to, .string x.data], .bool true]) ∧ Left w w' b (l.eraseIdx i) F := by
  have hi := (List.getElem?_eq_some_iff.1 hx).1
  have hFs : ∀ k, F k → k < w.heap.size := by obtain ⟨_, _, _, _, _, h⟩ := hR; exact h
  have hA : Upd F w (w.alloc (.cells #[.int .i64 0, .string ByteArray.empty] 32)) := (Upd.refl F w).alloc _
  have hM : MailR (w.alloc (.cells #[.int .i64 0, .string ByteArray.empty] 32)) b l F := hR.pre ((Below.refl _ _).alloc (Nat.le_refl _) _)
  have hl := len_calls _ b l F hM
  have ht := take_calls _ b l F hM hn i x hx
  have hnF : ¬ F w.heap.size := fun h => Nat.lt_irrefl _ (hFs _ h)
  have Hx := Lib.hid hx
  clear hR hM hx
  go_enter Try.func16, Try.ntmps16
  go_wp2_with (first
    | (go_at_call 24; refine hl.mono ?_; rintro e w1 ⟨rfl, rfl⟩)
    | (go_at_call 40; refine ht.mono ?_; rintro e w1 ⟨rfl, hL⟩; have hr1 : Hid (w1.heap[w.heap.size]? = some (.cells #[.int .i64 0, .string ByteArray.empty] 32 (0, 0))) := hL.1.block_eq (heap_alloc_new w _) hnF; have hq0 := cell_of_blk (j := 0) hr1.out; have hq1 := cell_of_blk (j := 1) hr1.out; have hz0 := free_of_blk (j := 0) hr1.out; have hz1 := free_of_blk (j := 1) hr1.out))
  have hr2 := heap_setCell_same _ _ 1 _ _ (.string x.data) (heap_setCell_same _ _ 0 _ _ (.int .i64 x.to) hr1.out)
  refine bodyPost_ret (results_cell_tmp rfl _ _ w.heap.size _ _ _ rfl hr2 Try.underlying32 rfl (by kernel_rfl)) rfl ⟨rfl, ?_⟩
  exact Left.off hA hL (((Upd.refl (fun k => k = w.heap.size) _).setCell (p := ⟨w.heap.size, 0, none⟩) (.inl rfl) _).setCell (p := ⟨w.heap.size, 1, none⟩) (.inl rfl) _) (Nat.le_refl _) (by simp) hnF

theorem twin_out (w : World) (b : Nat) (l : List Ag) (F : Nat → Prop) (i : Int) (hR : MailR w b l F) (hn : l.length ≤ 1000000) (hi : i < 0 ∨ l.length ≤ i) :
    Calls Try.prog 18 #[.pointer (some ⟨b, 0, none⟩), .int .i64 i] w fun e w' => e = .returned (.int .i64 5) ∧ Left w w' b l F := by
  have hl := len_calls _ b l F hR
  have hend := Left.refl hR
  clear hR
  rcases hi with hi | hi
  · go_enter Try.func18, Try.ntmps18
    go_wp2_with (go_at_call 24; refine hl.mono ?_; rintro e w1 ⟨rfl, rfl⟩)
    go_ret
    exact ⟨rfl, hend⟩
  · have hi0 : ¬ i < 0 := by omega
    go_enter Try.func18, Try.ntmps18
    go_wp2_with (go_at_call 24; refine hl.mono ?_; rintro e w1 ⟨rfl, rfl⟩)
    go_ret
    exact ⟨rfl, hend⟩

theorem twin_in (w : World) (b : Nat) (l : List Ag) (F : Nat → Prop) (i : Nat) (x : Ag) (hR : MailR w b l F) (hn : l.length ≤ 1000000) (hx : l[i]? = some x) (hd : x.data.size ≤ maxLen) :
    Calls Try.prog 18 #[.pointer (some ⟨b, 0, none⟩), .int .i64 (i : Int)] w fun e w' => e = .returned (.int .i64 (sendE l x.data)) ∧ Left w w' b (sendL l x.to x.data) F := by
  have hi := (List.getElem?_eq_some_iff.1 hx).1
  have hl := len_calls _ b l F hR
  have hs := send_calls _ b l F x.to x.data hR hn hd
  obtain ⟨v, hb, hown, hFb, hFg, hFs⟩ := hR
  obtain ⟨g, cap, rfl, _, hgl⟩ := hown.form (by omega)
  have hcb := cell_of_one hb
  obtain ⟨c0, c1, c2⟩ := own_cells hown hx
  clear hFb hFg hFs hb hown
  have Hx := Lib.hid hx
  clear hx
  go_enter Try.func18, Try.ntmps18
  go_wp2_with (first
    | (go_at_call 24; refine hl.mono ?_; rintro e w1 ⟨rfl, rfl⟩)
    | (go_at_call 14; refine hs.mono ?_; rintro e w1 ⟨rfl, hL⟩))
  go_ret
  exact ⟨rfl, hL⟩
end Go.Proofs.Ytdkebkalcelgpaa.Mail
