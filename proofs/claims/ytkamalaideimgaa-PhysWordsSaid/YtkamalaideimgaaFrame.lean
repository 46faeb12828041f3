import Derived.Test.YtkamalaideimgaaLives
import Derived.OwnWalk
/- frame, slices.Clone, Frame. -/
namespace Go.Proofs.Ytkamalaideimgaa
open Go.RowKit
set_option linter.unusedVariables false
attribute [local go_sem] szIs_lit row_at row_past row_alloc nf_alloc row_set nf_set row_cell nf_cell row_drew nf_drew row_drewN nf_drewN cell_setRow frozen_setRow nlt1 nlt2 nlt3 nlt4 nne1 nne2 nne3 nen1 nen2 nen3
attribute [local go_sem] by_get by_set

theorem framei_ok (g b n a k : Nat) (M : Nat → Int) (w : World) (hg : Blk w g (memS b n)) (hb : Blk w b (bytes M n)) (hn : n ≤ 1048576) (h2 : k < n / 256) (h3 : n % 256 = 0) :
    Calls Try.prog 22 #[.pointer (some ⟨g, 0, none⟩), .int .i64 k] w fun e w' => e = .returned (.tuple #[.slice (some ⟨b, k * 256, none⟩) 256 256, .int .i64 0]) ∧ w = w' := by
  have Hs := Lib.hid (span_ok g b n (k * 256) 256 M w hg hb hn (by decide) (by omega))
  have Hf := Lib.hid (frames_ok g b n M w hg hb hn)
  rw [show ((k * 256 : Nat) : Int) = (k : Int) * 256 from by omega] at Hs
  have c1 : (k : Int) < ((n / 256 : Nat) : Int) := by omega
  have hf : n / 256 ≤ 1048576 := by omega
  generalize n / 256 = f at *
  clear hg hb h3
  go_enter Try.func22, Try.ntmps22
  go_wp2_with fail
  refine (Hf.out).mono ?_; rintro e w' ⟨rfl, rfl⟩
  go_wp2_with fail
  refine (Hs.out).mono ?_; rintro e w' ⟨rfl, rfl⟩
  go_wp2
  go_ret2
  exact ⟨by simp, rfl⟩
/-- A new row that begins with these. -/
def Cloned (F : Nat → Int) (k : Nat) (w : World) (e : Ending) (w' : World) : Prop :=
  ∃ g cap C, e = .returned (.slice (some ⟨g, 0, none⟩) k cap) ∧ Blk w' g C ∧ (∀ j, j < k → C[j]? = some (.int .u8 (F j))) ∧ w.heap.size ≤ g ∧ Below w.heap.size w w'
theorem clone_ok (b a k : Nat) (F : Nat → Int) (w : World) (h1 : 1 ≤ k) (hk : k ≤ 1048576) (hc : ∀ j, j < k → w.cell? ⟨b, a + j, none⟩ = some (.int .u8 (F j))) :
    Calls Try.prog 23 #[.slice (some ⟨b, a, none⟩) k k] w (Cloned F k w) := by
  have he := fun w => Lib.run_eql_slice_nil (P := Try.prog) w 36 5 (some ⟨b, a, none⟩) k k 0 0 Try.underlying36
  obtain ⟨i0, hi, hz, hsz, hby⟩ := info_parts info5
  have Hc := Lib.hid hc
  clear hc
  go_enter Try.func23, Try.ntmps23
  go_wp2_with (at_builtin; refine wpList_append_own _ rfl _ _ 36 rfl w.heap.size 5 i0 (.int .u8 0) 1 1 Try.underlying36 hi hz hsz hby rfl (by decide) (.slice (some ⟨w.heap.size, 0, none⟩) 0 0) 0 [] rfl ?c0 ⟨b, a, none⟩ k k ((List.range k).map fun j => Value.int .u8 (F j)) rfl ?c1 ?c2 ?c3 ?c4 ?c5 ?c6 ?cm; case' cm => intro v' w1 hown hgrow _)
  case c0 => exact World.ownsRow_made w #[] 0 (Nat.le_refl _) (by unfold maxLen; omega) rfl
  case c1 => simp
  case c2 =>
    intro j u hu
    have hj : j < k := by
      have := (List.getElem?_eq_some_iff.1 hu).1
      simpa using this
    have ea : (⟨b, a, none⟩ : Addr).add j = ⟨b, a + j, none⟩ := by unfold Addr.add; split <;> simp_all
    have h0 := Hc.out j hj
    rw [ea, World.cell?_alloc_lt _ _ _ (World.block_lt_of_cell? w _ h0), h0]
    simpa [hj] using hu
  case c3 =>
    intro u hu
    simp at hu
    obtain ⟨j, _, rfl⟩ := hu
    rfl
  case c4 => unfold maxLen; omega
  case c5 => omega
  case c6 => simp
  rcases hown with ⟨hl, h0 | ⟨g, cap, cur, rfl, hbg, hgg, hnc, hcm, hcs, htake⟩⟩
  · exact absurd h0.2 (by omega)
  have hz2 : w.heap.size + 1 ≤ w1.heap.size := by simpa using hgrow.size
  go_wp2
  go_ret
  refine ⟨g, cap, cur, by simp, Blk.of_heap hgg, fun j hj => ?_, hbg, ?_⟩
  · have := congrArg (·[j]?) htake
    simpa [List.getElem?_take, hj] using this
  · exact ((Below.refl _ _).alloc (Nat.le_refl _) _).grown hgrow (by simp) (fun k e => by simp [Value.ownBlock] at e; omega)
/-- A whole frame. -/
def Framed (F : Nat → Int) (w : World) (e : Ending) (w' : World) : Prop :=
  ∃ g cap C, e = .returned (.tuple #[.slice (some ⟨g, 0, none⟩) 256 cap, .int .i64 0]) ∧ Blk w' g C ∧ (∀ j, j < 256 → C[j]? = some (.int .u8 (F j))) ∧ w.heap.size ≤ g ∧ Below w.heap.size w w'
theorem frame_ok (g b n a k : Nat) (M : Nat → Int) (w : World) (hg : Blk w g (memS b n)) (hb : Blk w b (bytes M n)) (hn : n ≤ 1048576) (h2 : k < n / 256) (h3 : n % 256 = 0) :
    Calls Try.prog 12 #[.pointer (some ⟨g, 0, none⟩), .int .i64 k] w (Framed (fun j => M (k * 256 + j)) w) := by
  have Hf := Lib.hid (framei_ok g b n a k M w hg hb hn h2 h3)
  have Hc := Lib.hid (clone_ok b (k * 256) 256 (fun j => M (k * 256 + j)) w (by decide) (by decide) (fun j hj => by
    obtain ⟨mr, mn, mc, mf⟩ := hb.all
    rw [cell_row mn, mr]
    exact by_get _ _ _ (by omega)))
  clear hg hb h3 hn h2
  go_enter Try.func12, Try.ntmps12
  go_wp2_with fail
  refine (Hf.out).mono ?_; rintro e w' ⟨rfl, rfl⟩
  go_wp2_with fail
  refine (Hc.out).mono ?_; rintro e w1 ⟨g1, cap, C, rfl, hb1, hc1, hl1, hbel1⟩
  go_wp2
  go_ret2
  exact ⟨g1, cap, C, by simp, hb1, hc1, hl1, hbel1⟩
end Go.Proofs.Ytkamalaideimgaa
