import Derived.Test.YthbbiobffoihaaaBase
import Derived.LoopN
/- What no call gave: nil, and the zero value. -/
namespace Go.Proofs.Ythbbiobffoihaaa
open Go.RowKit Go.BigFrame
set_option linter.unusedVariables false
set_option linter.unusedSimpArgs false
attribute [local go_sem] szIs_lit row_at row_past row_alloc nf_alloc row_set nf_set row_cell nf_cell row_drew nf_drew row_drewN nf_drewN cell_setRow frozen_setRow nlt1 nlt2 nlt3 nlt4 nne1 nne2 nne3 nen1 nen2 nen3
set_option maxRecDepth 20000
/-- Files that New did not give. -/
def NF (w : World) (v : Value) : Prop := v = .pointer none ∨ ∃ g, v = .pointer (some ⟨g, 0, none⟩) ∧ w.cell? ⟨g, 0, none⟩ = some (.map none)
/-- A table that neither Table nor Fork gave. -/
def NT (w : World) (v : Value) : Prop := v = .pointer none ∨ ∃ g, v = .pointer (some ⟨g, 0, none⟩) ∧ w.cell? ⟨g, 0, none⟩ = some (.pointer none)
theorem neq50_none (w : World) : (binOp .neq 50 (.map none) (.map none)).run Try.prog w = .ok (.bool false) w := by kernel_rfl
theorem neq50_some (m : Nat) (w : World) : (binOp .neq 50 (.map (some m)) (.map none)).run Try.prog w = .ok (.bool true) w := by kernel_rfl
attribute [local go_sem] neq50_none neq50_some
theorem made_f (w : World) (v : Value) (h : NF w v) : Calls Try.prog 27 #[v] w fun r w' => r = .returned (.bool false) ∧ w = w' := by
  rcases h with rfl | ⟨g, rfl, hc⟩
  · go_enter Try.func27, Try.ntmps27
    go_wp2
    go_ret
    exact ⟨by first | rfl | simp, rfl⟩
  · go_enter Try.func27, Try.ntmps27
    go_wp2
    go_ret
    exact ⟨by first | rfl | simp, rfl⟩
theorem made_t (w : World) (v : Value) (h : NT w v) : Calls Try.prog 26 #[v] w fun r w' => r = .returned (.bool false) ∧ w = w' := by
  rcases h with rfl | ⟨g, rfl, hc⟩
  · go_enter Try.func26, Try.ntmps26
    go_wp2
    go_ret
    exact ⟨by first | rfl | simp, rfl⟩
  · go_enter Try.func26, Try.ntmps26
    go_wp2
    go_ret
    exact ⟨by first | rfl | simp, rfl⟩
theorem open_n (w : World) (v : Value) (h : NF w v) (a b c : Int) : Calls Try.prog 8 #[v, .int .i64 a, .int .i64 b, .int .i64 c] w fun r w' => r = .returned (.tuple #[.int .i64 0, .int .i64 6]) ∧ w = w' := by
  have H := Lib.hid (made_f w v h)
  clear h
  go_enter Try.func8, Try.ntmps8
  go_wp2_with fail
  refine (H.out).mono ?_
  rintro r w' ⟨rfl, rfl⟩
  go_wp2_with fail
  go_ret2
  exact ⟨by first | rfl | simp, rfl⟩
theorem find_n (w : World) (v : Value) (h : NF w v) (a : Int) : Calls Try.prog 28 #[v, .int .i64 a] w fun r w' => r = .returned (.tuple #[.pointer none, .int .i64 6]) ∧ w = w' := by
  have H := Lib.hid (made_f w v h)
  clear h
  go_enter Try.func28, Try.ntmps28
  go_wp2_with fail
  refine (H.out).mono ?_
  rintro r w' ⟨rfl, rfl⟩
  go_wp2_with fail
  go_ret2
  exact ⟨by first | rfl | simp, rfl⟩
theorem move_n (w : World) (v : Value) (h : NF w v) (a b : Int) : Calls Try.prog 14 #[v, .int .i64 a, .int .i64 b] w fun r w' => r = .returned (.int .i64 6) ∧ w = w' := by
  have H := Lib.hid (find_n w v h)
  clear h
  go_enter Try.func14, Try.ntmps14
  go_wp2_with fail
  refine (H.out _).mono ?_
  rintro r w' ⟨rfl, rfl⟩
  go_wp2_with fail
  go_ret
  exact ⟨by first | rfl | simp, rfl⟩
theorem all_n (w : World) (v : Value) (h : NF w v) : Calls Try.prog 21 #[v] w fun r w' => r = .returned (.slice none 0 0) ∧ w = w' := by
  have H := Lib.hid (made_f w v h)
  clear h
  go_enter Try.func21, Try.ntmps21
  go_wp2_with fail
  refine (H.out).mono ?_
  rintro r w' ⟨rfl, rfl⟩
  go_wp2_with fail
  go_ret
  exact ⟨by first | rfl | simp, rfl⟩
theorem on_n (w : World) (v : Value) (h : NF w v) (a b : Int) : Calls Try.prog 22 #[v, .int .i64 a, .int .i64 b] w fun r w' => r = .returned (.int .i64 0) ∧ w = w' := by
  have H := Lib.hid (all_n w v h)
  clear h
  go_enter Try.func22, Try.ntmps22
  go_wp2_with fail
  refine H.out.mono ?_
  rintro r w' ⟨rfl, rfl⟩
  go_wp2_with fail
  refine wp_loop_rounds 1 ?_
  rw [rounds_succ]
  go_wp2_with fail
  go_ret
  exact ⟨by first | rfl | simp, rfl⟩
theorem table_n (w : World) (v : Value) (h : NF w v) : Calls Try.prog 23 #[v] w fun r w' => r = .returned (.pointer none) ∧ w = w' := by
  have H := Lib.hid (made_f w v h)
  clear h
  go_enter Try.func23, Try.ntmps23
  go_wp2_with fail
  refine (H.out).mono ?_
  rintro r w' ⟨rfl, rfl⟩
  go_wp2_with fail
  go_ret
  exact ⟨by first | rfl | simp, rfl⟩
theorem install_n (w : World) (v : Value) (h : NT w v) (a : Int) : Calls Try.prog 9 #[v, .int .i64 a] w fun r w' => r = .returned (.tuple #[.int .i64 0, .int .i64 6]) ∧ w = w' := by
  have H := Lib.hid (made_t w v h)
  clear h
  go_enter Try.func9, Try.ntmps9
  go_wp2_with fail
  refine (H.out).mono ?_
  rintro r w' ⟨rfl, rfl⟩
  go_wp2_with fail
  go_ret2
  exact ⟨by first | rfl | simp, rfl⟩
theorem tget_n (w : World) (v : Value) (h : NT w v) (a : Int) : Calls Try.prog 13 #[v, .int .i64 a] w fun r w' => r = .returned (.tuple #[.int .i64 0, .int .i64 6]) ∧ w = w' := by
  have H := Lib.hid (made_t w v h)
  clear h
  go_enter Try.func13, Try.ntmps13
  go_wp2_with fail
  refine (H.out).mono ?_
  rintro r w' ⟨rfl, rfl⟩
  go_wp2_with fail
  go_ret2
  exact ⟨by first | rfl | simp, rfl⟩
theorem dup_n (w : World) (v : Value) (h : NT w v) (a : Int) : Calls Try.prog 10 #[v, .int .i64 a] w fun r w' => r = .returned (.tuple #[.int .i64 0, .int .i64 6]) ∧ w = w' := by
  have H := Lib.hid (tget_n w v h)
  clear h
  go_enter Try.func10, Try.ntmps10
  go_wp2_with fail
  refine (H.out _).mono ?_
  rintro r w' ⟨rfl, rfl⟩
  go_wp2_with fail
  go_ret2
  exact ⟨by first | rfl | simp, rfl⟩
theorem fork_n (w : World) (v : Value) (h : NT w v) : Calls Try.prog 12 #[v] w fun r w' => r = .returned (.tuple #[.pointer none, .int .i64 6]) ∧ w = w' := by
  have H := Lib.hid (made_t w v h)
  clear h
  go_enter Try.func12, Try.ntmps12
  go_wp2_with fail
  refine (H.out).mono ?_
  rintro r w' ⟨rfl, rfl⟩
  go_wp2_with fail
  go_ret2
  exact ⟨by first | rfl | simp, rfl⟩
theorem fds_n (w : World) (v : Value) (h : NT w v) : Calls Try.prog 24 #[v] w fun r w' => r = .returned (.slice none 0 0) ∧ w = w' := by
  have H := Lib.hid (made_t w v h)
  clear h
  go_enter Try.func24, Try.ntmps24
  go_wp2_with fail
  refine (H.out).mono ?_
  rintro r w' ⟨rfl, rfl⟩
  go_wp2_with fail
  go_ret
  exact ⟨by first | rfl | simp, rfl⟩
theorem free_n (w : World) (v : Value) (h : NT w v) : Calls Try.prog 7 #[v] w fun r w' => r = .returned (.int .i64 0) ∧ w = w' := by
  have H := Lib.hid (made_t w v h)
  clear h
  go_enter Try.func7, Try.ntmps7
  go_wp2_with fail
  refine (H.out).mono ?_
  rintro r w' ⟨rfl, rfl⟩
  go_wp2_with fail
  go_ret
  exact ⟨by first | rfl | simp, rfl⟩
theorem ret_ctt {fn : Func} {p u v : Tmp} {ty : TypeId} (h : fn.results = #[.cell p ty, .tmp u, .tmp v]) (n : Nat) (tmps : Array Value) (w : World) (g : Nat)
    (hp : tmps.getD p undef = .pointer (some ⟨g, 0, none⟩)) (hn : nf w g = true) (hs : szIs (row w g) n = true)
    (hk : (match Try.prog.underlying ty with | some (.struct _) => true | _ => false) = true) (hi : (Try.prog.info? ty).map (·.size) = some n) : (results fn tmps).run Try.prog w = .ok (.tuple #[.agg (row w g), tmps.getD u undef, tmps.getD v undef]) w := by
  obtain ⟨t, e⟩ := nf_iff hn
  have hs := of_decide_eq_true hs
  have hp' : tmps[p]?.getD undef = .pointer (some ⟨g, 0, none⟩) := by simpa using hp
  cases hu : Try.prog.underlying ty with
  | none => simp [hu] at hk
  | some d =>
    cases d <;> simp [hu] at hk
    simp [results, h, hp', asAddr, run_loadVar_row w g t ty _ (0, 0) _ e hu rfl (by rw [hi, hs])]
theorem get_n (w : World) (v : Value) (h : NF w v) (a : Int) : Calls Try.prog 19 #[v, .int .i64 a] w fun r w' => r = .returned (.tuple #[.agg #[.int .i64 0, .int .i64 0, .int .i64 0, .int .i64 0, .int .i64 0], .int .i64 6]) ∧ Below w.heap.size w w' := by
  have hn : NF (w.alloc (.cells #[.int .i64 0, .int .i64 0, .int .i64 0, .int .i64 0, .int .i64 0] 40)) v := by
    rcases h with rfl | ⟨g, rfl, hc⟩
    · exact .inl rfl
    · refine .inr ⟨g, rfl, ?_⟩
      have hb : Below w.heap.size w (w.alloc (.cells #[.int .i64 0, .int .i64 0, .int .i64 0, .int .i64 0, .int .i64 0] 40)) := (Below.refl _ _).alloc (Nat.le_refl _) _
      have hl : g < w.heap.size := by
        rcases Nat.lt_or_ge g w.heap.size with h1 | h1
        · exact h1
        · unfold World.cell? at hc; rw [Array.getElem?_eq_none h1] at hc; cases hc
      exact (hb.cell (p := ⟨g, 0, none⟩) hl).trans hc
  have H := Lib.hid (find_n _ v hn a)
  have hb : Below w.heap.size w (w.alloc (.cells #[.int .i64 0, .int .i64 0, .int .i64 0, .int .i64 0, .int .i64 0] 40)) := (Below.refl _ _).alloc (Nat.le_refl _) _
  have hk : Blk (w.alloc (.cells #[.int .i64 0, .int .i64 0, .int .i64 0, .int .i64 0, .int .i64 0] 40)) w.heap.size #[.int .i64 0, .int .i64 0, .int .i64 0, .int .i64 0, .int .i64 0] := Blk.of_heap (heap_at rfl)
  have HB := Lib.hid hb
  have HK := Lib.hid hk
  clear h hn hb hk
  generalize hu : w.alloc (.cells #[.int .i64 0, .int .i64 0, .int .i64 0, .int .i64 0, .int .i64 0] 40) = u at *
  obtain ⟨kr, kn, kc, kf⟩ := HK.out.all
  go_enter Try.func19, Try.ntmps19
  go_wp2_with (rw [hu])
  refine H.out.mono ?_
  rintro r w' ⟨rfl, rfl⟩
  clear hu
  go_wp2_with fail
  refine bodyPost_ret (ret_ct rfl 5 _ _ w.heap.size rfl (by simp [go_sem, kn]) (by simp [go_sem, kr]) (by kernel_rfl) (by kernel_rfl)) rfl ⟨by simp [go_sem, kr, kn], ?_⟩
  repeat (first | exact HB.out | (refine Below.setCell ?_ ?h _; (case h => exact Nat.le_refl _)))
theorem drop_n (w : World) (v : Value) (h : NF w v) (a : Int) : Calls Try.prog 20 #[v, .int .i64 a] w fun r w' => r = .returned (.tuple #[.agg #[.int .i64 0, .int .i64 0, .int .i64 0, .int .i64 0, .int .i64 0], .bool false, .int .i64 6]) ∧ Below w.heap.size w w' := by
  have hb : Below w.heap.size w (w.alloc (.cells #[.int .i64 0, .int .i64 0, .int .i64 0, .int .i64 0, .int .i64 0] 40)) := (Below.refl _ _).alloc (Nat.le_refl _) _
  have hn : NF (w.alloc (.cells #[.int .i64 0, .int .i64 0, .int .i64 0, .int .i64 0, .int .i64 0] 40)) v := by
    rcases h with rfl | ⟨g, rfl, hc⟩
    · exact .inl rfl
    · refine .inr ⟨g, rfl, ?_⟩
      have hl : g < w.heap.size := by
        rcases Nat.lt_or_ge g w.heap.size with h1 | h1
        · exact h1
        · unfold World.cell? at hc; rw [Array.getElem?_eq_none h1] at hc; cases hc
      exact (hb.cell (p := ⟨g, 0, none⟩) hl).trans hc
  have H := Lib.hid (find_n _ v hn a)
  have hk : Blk (w.alloc (.cells #[.int .i64 0, .int .i64 0, .int .i64 0, .int .i64 0, .int .i64 0] 40)) w.heap.size #[.int .i64 0, .int .i64 0, .int .i64 0, .int .i64 0, .int .i64 0] := Blk.of_heap (heap_at rfl)
  have HB := Lib.hid hb
  have HK := Lib.hid hk
  clear h hn hb hk
  generalize hu : w.alloc (.cells #[.int .i64 0, .int .i64 0, .int .i64 0, .int .i64 0, .int .i64 0] 40) = u at *
  obtain ⟨kr, kn, kc, kf⟩ := HK.out.all
  go_enter Try.func20, Try.ntmps20
  go_wp2_with (rw [hu])
  refine H.out.mono ?_
  rintro r w' ⟨rfl, rfl⟩
  clear hu
  go_wp2_with fail
  refine bodyPost_ret (ret_ctt rfl 5 _ _ w.heap.size rfl (by simp [go_sem, kn]) (by simp [go_sem, kr]) (by kernel_rfl) (by kernel_rfl)) rfl ⟨by simp [go_sem, kr, kn], ?_⟩
  repeat (first | exact HB.out | (refine Below.setCell ?_ ?h _; (case h => exact Nat.le_refl _)))
theorem close_n (w : World) (v : Value) (h : NT w v) (a : Int) : Calls Try.prog 11 #[v, .int .i64 a] w fun r w' => r = .returned (.tuple #[.agg #[.int .i64 0, .int .i64 0, .int .i64 0, .int .i64 0, .int .i64 0], .bool false, .int .i64 6]) ∧ Below w.heap.size w w' := by
  have hb : Below w.heap.size w (w.alloc (.cells #[.int .i64 0, .int .i64 0, .int .i64 0, .int .i64 0, .int .i64 0] 40)) := (Below.refl _ _).alloc (Nat.le_refl _) _
  have hn : NT (w.alloc (.cells #[.int .i64 0, .int .i64 0, .int .i64 0, .int .i64 0, .int .i64 0] 40)) v := by
    rcases h with rfl | ⟨g, rfl, hc⟩
    · exact .inl rfl
    · refine .inr ⟨g, rfl, ?_⟩
      have hl : g < w.heap.size := by
        rcases Nat.lt_or_ge g w.heap.size with h1 | h1
        · exact h1
        · unfold World.cell? at hc; rw [Array.getElem?_eq_none h1] at hc; cases hc
      exact (hb.cell (p := ⟨g, 0, none⟩) hl).trans hc
  have H := Lib.hid (tget_n _ v hn a)
  have hk : Blk (w.alloc (.cells #[.int .i64 0, .int .i64 0, .int .i64 0, .int .i64 0, .int .i64 0] 40)) w.heap.size #[.int .i64 0, .int .i64 0, .int .i64 0, .int .i64 0, .int .i64 0] := Blk.of_heap (heap_at rfl)
  have HB := Lib.hid hb
  have HK := Lib.hid hk
  clear h hn hb hk
  generalize hu : w.alloc (.cells #[.int .i64 0, .int .i64 0, .int .i64 0, .int .i64 0, .int .i64 0] 40) = u at *
  obtain ⟨kr, kn, kc, kf⟩ := HK.out.all
  go_enter Try.func11, Try.ntmps11
  go_wp2_with (rw [hu])
  refine H.out.mono ?_
  rintro r w' ⟨rfl, rfl⟩
  clear hu
  go_wp2_with fail
  refine bodyPost_ret (ret_ctt rfl 5 _ _ w.heap.size rfl (by simp [go_sem, kn]) (by simp [go_sem, kr]) (by kernel_rfl) (by kernel_rfl)) rfl ⟨by simp [go_sem, kr, kn], ?_⟩
  repeat (first | exact HB.out | (refine Below.setCell ?_ ?h _; (case h => exact Nat.le_refl _)))
end Go.Proofs.Ythbbiobffoihaaa
