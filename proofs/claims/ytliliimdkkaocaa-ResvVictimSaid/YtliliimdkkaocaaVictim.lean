import Derived.Test.YtliliimdkkaocaaVictims
/- ResvVictim. -/
namespace Go.Proofs.Ytliliimdkkaocaa
open Go.RowKit
set_option linter.unusedVariables false
set_option linter.unusedSimpArgs false
attribute [local go_sem] szIs_lit row_at row_past row_alloc nf_alloc row_set nf_set row_cell nf_cell row_drew nf_drew row_drewN nf_drewN cell_setRow frozen_setRow nlt1 nlt2 nlt3 nlt4 nne1 nne2 nne3 nen1 nen2 nen3

theorem ty22 : Try.prog.underlying 22 = some (.slice 27) := by kernel_rfl
theorem i27 : (Try.prog.info? 27).map (fun i => (i.zero, i.size, i.bytes)) = some (some (.agg #[.int .i64 0, .int .i64 0]), 2, 16) := by kernel_rfl
def oflat (o : Nat → OwnerV) : Nat → List Value
  | 0 => []
  | n + 1 => oflat o n ++ [.int .i64 (o n).x0, .int .i64 (o n).x1]
theorem oflat_len (o : Nat → OwnerV) : ∀ n, (oflat o n).length = n * 2
  | 0 => rfl
  | n + 1 => by rw [oflat, List.length_append, oflat_len o n]; simp; omega
theorem oflat_at (o : Nat → OwnerV) : ∀ n i, i < n → (oflat o n)[i * 2]? = some (.int .i64 (o i).x0) ∧ (oflat o n)[i * 2 + 1]? = some (.int .i64 (o i).x1)
  | 0, i, h => by omega
  | n + 1, i, h => by
    rw [oflat]
    by_cases hi : i < n
    · rw [List.getElem?_append_left (by rw [oflat_len]; omega), List.getElem?_append_left (by rw [oflat_len]; omega)]
      exact oflat_at o n i hi
    · obtain rfl : i = n := by omega
      rw [List.getElem?_append_right (by rw [oflat_len]; omega), List.getElem?_append_right (by rw [oflat_len]; omega), oflat_len]
      simp
theorem oflat_one (o : Nat → OwnerV) : ∀ n u, u ∈ oflat o n → u.oneCell' = true
  | 0, u, h => by simp [oflat] at h
  | n + 1, u, h => by
    rw [oflat] at h
    rcases List.mem_append.1 h with h | h
    · exact oflat_one o n u h
    · simp at h; rcases h with rfl | rfl <;> rfl
theorem own_copy {w : World} {B len cap : Nat} {a : Option Addr} {o : Nat → OwnerV} (h : AreOwner w B a len cap o) (hB : B ≤ w.heap.size) :
    ∃ A2 c2 w2, (Builtin.append_ #[22, 22] 22 #[.slice (some ⟨w.heap.size, 0, none⟩) 0 0, .slice a len cap]).run Try.prog (w.alloc (.cells #[] 27)) = .ok (.slice A2 len c2) w2 ∧ AreOwner w2 w2.heap.size A2 len c2 o ∧ Below w.heap.size w w2 := by
  obtain ⟨i0, hi0, hz0, hz1, hz2⟩ := info_parts i27
  have hr := h.2.2.1
  have hown : (w.alloc (.cells #[] 27)).ownsRow w.heap.size 27 2 (.slice (some ⟨w.heap.size, 0, none⟩) 0 0) 0 [] := ⟨rfl, .inr ⟨w.heap.size, 0, #[], rfl, Nat.le_refl _, heap_alloc_new w _, Nat.le_refl _, by unfold maxLen; omega, rfl, rfl⟩⟩
  cases a with
  | none =>
    obtain rfl : len = 0 := by
      rcases Nat.eq_zero_or_pos len with e | e
      · exact e
      · obtain ⟨b, off, e2, _⟩ := h.2.2.2 e; cases e2
    refine ⟨some ⟨w.heap.size, 0, none⟩, 0, _, ?_, ⟨Nat.le_refl _, by unfold maxLen; omega, by omega, fun h => by omega⟩, (Below.refl _ _).alloc (Nat.le_refl _) (.cells #[] 27)⟩
    simp [Builtin.append_, run_underlying ty22, sizeOf, typeInfo, hi0, Builtin.lenOf, Builtin.firstCells, storeCells]
  | some ad =>
    have hcell : ∀ j u, (oflat o len)[j]? = some u → (w.alloc (.cells #[] 27)).cell? (ad.add j) = some u := fun j u hu => by
      have hj : j < len * 2 := by have := (List.getElem?_eq_some_iff.1 hu).1; rwa [oflat_len] at this
      obtain ⟨b, off, e, hb, c0, c1⟩ := h.at_ (j / 2) (by omega)
      injection e with e
      subst e
      have e2 : (⟨b, off, none⟩ : Addr).add j = ⟨b, off + j, none⟩ := by unfold Addr.add; split <;> simp_all
      rw [e2, World.cell?_alloc_lt w _ _ (show b < w.heap.size by omega)]
      obtain ⟨p0, p1⟩ := oflat_at o len (j / 2) (by omega)
      rcases Nat.mod_two_eq_zero_or_one j with hm | hm
      · have e3 : j / 2 * 2 = j := by omega
        rw [e3] at p0 c0
        rw [hu] at p0; rw [p0]; exact c0
      · have e3 : j / 2 * 2 + 1 = j := by omega
        have e4 : off + j / 2 * 2 + 1 = off + j := by omega
        rw [e3] at p1
        rw [e4] at c1
        rw [hu] at p1; rw [p1]; exact c1
    obtain ⟨v', w', hrun, h2, h3, h4, h5⟩ := run_append_own_at (P := Try.prog) (w.alloc (.cells #[] 27)) w.heap.size 22 22 27 i0 (.agg #[.int .i64 0, .int .i64 0]) 2 16 ty22 hi0 hz0 hz1 hz2 (by simp [Value.cells]) (by omega) _ 0 [] hown ad len cap (oflat o len) (oflat_len o len) hcell (oflat_one o len) (by have := h.1; have := h.2.1; omega) (by unfold reachBytes at hr; omega) (by simp)
    simp only [Nat.zero_add, List.nil_append] at h2 hrun
    have hB2 : Below w.heap.size w w' := ⟨h3.os, h3.tape, h3.output, by have := h3.size; simp at this; omega, fun k hk => (h3.block k (by simp; omega) (fun e => by have e2 : k = w.heap.size := Option.some.inj e; omega)).trans (heap_past hk)⟩
    rcases h2.2 with ⟨hv, h0⟩ | ⟨g, c2, cur, hv, hbg, hgg, hn, hm, _⟩
    · refine ⟨none, 0, w', by rw [hrun, hv, h0], ⟨by omega, by unfold maxLen; omega, by omega, fun h => by omega⟩, hB2⟩
    · refine ⟨some ⟨g, 0, none⟩, c2, w', by rw [hrun, hv], ⟨hn, hm, hr, fun hpos => ⟨g, 0, rfl, (Array.getElem?_eq_some_iff.1 hgg).1, fun i hi => ?_⟩⟩, hB2⟩
      rw [hv] at h2
      obtain ⟨p0, p1⟩ := oflat_at o len i hi
      obtain ⟨b, off, e, hb, hc⟩ := h.2.2.2 hpos
      obtain ⟨_, q0, _, q1⟩ := hc i hi
      refine ⟨?_, q0, ?_, q1⟩
      · rw [Nat.zero_add, World.ownsRow.cellAt h2 (i * 2) (by omega)]; exact p0
      · rw [Nat.zero_add, World.ownsRow.cellAt h2 (i * 2 + 1) (by omega)]; exact p1
set_option maxHeartbeats 4000000 in
theorem victim_walk (a : Option Addr) (len cap : Nat) (o : Nat → OwnerV) (w : World) (h : AreOwner w w.heap.size a len cap o) (sp : Int) : Calls Try.prog 3 #[.slice a len cap, .int .i64 sp] w fun e w' => e = .returned (.bool true) ∧ Below w.heap.size w w' := by
  obtain ⟨A2, c2, w2, hrun, hown, hB⟩ := own_copy h (Nat.le_refl _)
  have hlen := h.2.2.1
  have hlr : len ≤ 9223372036854775806 := by unfold reachBytes at hlen; omega
  have HR := Lib.hid hrun
  have HO := Lib.hid hown
  have HB := Lib.hid hB
  have HH := Lib.hid h
  have HZ := Lib.hid hB.size
  clear hrun hown hB h hlen
  go_enter Try.func3, Try.ntmps3
  go_wp2_with (at_builtin; go_must (refine wpList_app2 rfl (.tmp 11) (.tmp 12) 22 rfl (.slice (some ⟨w.heap.size, 0, none⟩) 0 0) (.slice a len cap) rfl rfl _ w2 HR.out ?_))
  refine (victim_ok _ A2 len c2 o sp w2 HO.out (Nat.le_refl _)).mono ?_
  rintro e w3 ⟨rfl, hB⟩
  have HB3 := Lib.hid hB
  have HA3 := Lib.hid (HH.out.below (HB.out.trans (hB.mono HZ.out)))
  have HZ3 := Lib.hid (Nat.le_trans HZ.out hB.size)
  clear hB
  go_wp2_with fail
  refine (rvictim_ok _ a len cap o sp w3 HA3.out HZ3.out).mono ?_
  rintro e w4 ⟨rfl, hB⟩
  have HB4 := Lib.hid (HB3.out.trans (hB.mono HB3.out.size))
  clear hB
  go_wp2_with fail
  refine (lives_ok w4).mono ?_
  rintro e w5 ⟨rfl, hB⟩
  have HB5 := Lib.hid (HB4.out.trans (hB.mono HB4.out.size))
  clear hB
  have HO5 := Lib.hid (HO.out.below HB5.out)
  have HA5 := Lib.hid (HH.out.below (HB.out.trans (HB5.out.mono HZ.out)))
  go_wp2_with fail
  go_loopg [10] len (fun k i_ wr => ∃ (j : Nat), i_ = .int .i64 (j : Int) ∧ k = len - j ∧ j ≤ len ∧ ∃ n, wr = w5.drewN n)
  case atStart => exact ⟨0, rfl, rfl, by omega, 0, rfl⟩
  case round =>
    obtain ⟨j, rfl, hk, hj, m, rfl⟩ := hrel
    have HK := Lib.hid hk
    clear hk
    by_cases hlt : j < len
    · obtain ⟨b, off, ha, hbB, c0, c1⟩ := HA5.out.at_ j hlt
      obtain ⟨b', off', ha', hbB', d0, d1⟩ := HO5.out.at_ j hlt
      subst ha ha'
      go_wp2_with fail
      go_quiet (fail)
      go_wp2_with fail
      go_roundg (len - (j + 1))
      case measure => have := HK.out; omega
      case rel => exact ⟨j + 1, by go_num, rfl, by omega, _, rfl⟩
    · obtain rfl : j = len := by omega
      go_wp2
      go_ret
      exact ⟨by first | rfl | simp, (HB.out.trans (HB5.out.mono HZ.out)).trans (by exact ⟨rfl, rfl, rfl, Nat.le_refl _, fun _ _ => rfl⟩)⟩
end Go.Proofs.Ytliliimdkkaocaa
