import Derived.Test.YtajhpfmfoolcjaaTwo
/- Strings of bytes; sectors; what a crash leaves of a sector; mixed. -/
namespace Go.Proofs.Ytajhpfmfoolcjaa
open Go.RowKit Go.BigFrame
set_option linter.unusedVariables false
set_option linter.unusedSimpArgs false
attribute [local go_sem] szIs_lit row_at row_past row_alloc nf_alloc row_set nf_set row_cell nf_cell row_drew nf_drew row_drewN nf_drewN cell_setRow frozen_setRow nlt1 nlt2 nlt3 nlt4 nne1 nne2 nne3 nen1 nen2 nen3
theorem str_fold : ∀ (l : List Int) (r : ByteArray), l.foldl (fun r n => r.push (UInt8.ofNat n.toNat)) r = ⟨r.data ++ (l.map fun n => UInt8.ofNat n.toNat).toArray⟩
  | [], r => by simp
  | n :: l, r => by
    simp only [List.foldl_cons]
    rw [str_fold l]
    simp [ByteArray.push]
theorem str_data (l : List Int) : (str l).data = (l.map fun n => UInt8.ofNat n.toNat).toArray := by
  unfold str; rw [str_fold]; simp [ByteArray.empty, ByteArray.emptyWithCapacity]
  rfl
theorem str_size (l : List Int) : (str l).size = l.length := by
  show (str l).data.size = _
  rw [str_data]; simp
theorem str_get {l : List Int} {j : Nat} {x : Int} (h : l[j]? = some x) : (str l)[j]? = some (UInt8.ofNat x.toNat) := by
  have hj := (List.getElem?_eq_some_iff.1 h).1
  have hs : j < (str l).size := by rw [str_size]; exact hj
  rw [getElem?_pos (str l) j hs]
  congr 1
  have h1 : (str l)[j] = (str l).data[j] := rfl
  have h2 : (str l).data[j]? = some (UInt8.ofNat x.toNat) := by rw [str_data]; simp [h]
  rw [h1]
  have := Array.getElem?_eq_some_iff.1 h2
  exact this.2
def ByteOK (l : List Int) : Prop := ∀ x ∈ l, 0 ≤ x ∧ x < 256
theorem idx9 {l : List Int} {j : Nat} {x : Int} (h : l[j]? = some x) (hx : 0 ≤ x ∧ x < 256) (w : World) : (Instr.index 9 (.string (str l)) (.int .i64 (j : Int))).run Try.prog w = .ok (.int .u8 x) w := by
  have hj := (List.getElem?_eq_some_iff.1 h).1
  have h9 : Try.prog.underlying 9 = some .string := by kernel_rfl
  have e : (if (0 : Int) ≤ (j : Int) then (str l)[(j : Int).toNat]? else none) = some (UInt8.ofNat x.toNat) := by
    rw [if_pos (by omega), Int.toNat_natCast, str_get h]
  have hb : ((UInt8.ofNat x.toNat).toNat : Int) = x := by
    rw [UInt8.toNat_ofNat']; omega
  simp [Instr.index, asIntOf, run_underlying h9, str_get h, hb]
  omega
/-! Sectors -/
def sct (q : List Int) (n : Nat) : List Int := (q.drop (n * 512)).take 512
theorem sct_len {q : List Int} {n : Nat} (h : n * 512 + 512 ≤ q.length) : (sct q n).length = 512 := by unfold sct; rw [List.length_take, List.length_drop]; omega
theorem sct_get (q : List Int) (n : Nat) {i : Nat} (hi : i < 512) : (sct q n)[i]? = q[n * 512 + i]? := by unfold sct; rw [List.getElem?_take_of_lt hi, List.getElem?_drop]
theorem sct_lay (q : List Int) (m n : Nat) (x : List Int) (hx : x.length ≤ 512) (hm : m * 512 + 512 ≤ q.length) {i : Nat} (hi : i < 512) : (sct (Go.Proofs.Ytajhpfmfoolcjaa.lay q (m * 512) x) n)[i]? = if m = n ∧ i < x.length then x[i]? else (sct q n)[i]? := by
  rw [sct_get _ _ hi, sct_get _ _ hi, lay_get _ _ _ (by omega)]
  by_cases h : m = n ∧ i < x.length
  · obtain ⟨rfl, h2⟩ := h
    rw [if_pos (by omega), if_pos ⟨rfl, h2⟩]; congr 1; omega
  · rw [if_neg (by omega), if_neg h]
/-- Each byte is the old one's, or a write's. -/
def Mix (lo ln : List Int) (n : Nat) (l : List (Nat × List Int)) : Prop := ∀ i, i < 512 → ln[i]? = lo[i]? ∨ ∃ p ∈ l, p.1 = n ∧ p.2[i]? = ln[i]?
structure GD (S : DS) : Prop where
  size : S.plat.length = S.cnt * 512
  ins : ∀ p ∈ S.pend, p.n < S.cnt ∧ p.bs.length = 512
  b1 : ByteOK S.plat
  b2 : ∀ p ∈ S.pend, ByteOK p.bs
theorem crashTo_len {S : DS} (h : GD S) (o : Nat → TornV) (k : Nat) : (S.crashTo o k).length = S.cnt * 512 := by
  induction k with
  | zero => exact h.size
  | succ k ih =>
    rw [crashTo_succ]
    unfold DS.crash1
    cases hp : S.pend[(o k).x0.toNat]? with
    | none => exact ih
    | some p =>
      obtain ⟨h1, h2⟩ := h.ins p (List.mem_of_getElem? hp)
      simp only
      rw [lay_len _ _ _ (by rw [List.length_take, ih]; omega)]; exact ih
theorem lay_byte {q x : List Int} {m : Nat} (hq : ByteOK q) (hx : ByteOK x) : ByteOK (Go.Proofs.Ytajhpfmfoolcjaa.lay q m x) := fun y hy => by
  unfold Go.Proofs.Ytajhpfmfoolcjaa.lay at hy
  rcases List.mem_append.1 hy with hy | hy
  · rcases List.mem_append.1 hy with hy | hy
    · exact hq y (List.mem_of_mem_take hy)
    · exact hx y hy
  · exact hq y (List.mem_of_mem_drop hy)
theorem crashTo_byte {S : DS} (h : GD S) (o : Nat → TornV) (k : Nat) : ByteOK (S.crashTo o k) := by
  induction k with
  | zero => exact h.b1
  | succ k ih =>
    rw [crashTo_succ]
    unfold DS.crash1
    cases hp : S.pend[(o k).x0.toNat]? with
    | none => exact ih
    | some p => exact lay_byte ih fun y hy => h.b2 p (List.mem_of_getElem? hp) y (List.mem_of_mem_take hy)
theorem crashTo_mix {S : DS} (h : GD S) (o : Nat → TornV) (n : Nat) (k : Nat) : Mix (sct S.plat n) (sct (S.crashTo o k) n) n (core S.pend) := by
  induction k with
  | zero => exact fun i _ => .inl rfl
  | succ k ih =>
    rw [crashTo_succ]
    unfold DS.crash1
    cases hp : S.pend[(o k).x0.toNat]? with
    | none => exact ih
    | some p =>
      have hpm := List.mem_of_getElem? hp
      obtain ⟨h1, h2⟩ := h.ins p hpm
      intro i hi
      simp only
      rw [sct_lay _ _ _ _ (by rw [List.length_take]; omega) (by rw [crashTo_len h]; omega) hi]
      split
      · rename_i hc
        right
        refine ⟨(p.n, p.bs), List.mem_map.2 ⟨p, hpm, rfl⟩, hc.1, ?_⟩
        have := hc.2
        rw [List.length_take] at this
        rw [List.getElem?_take_of_lt (by omega)]
      · exact ih i hi
theorem crashTo_whole {S : DS} (h : GD S) (o : Nat → TornV) (n : Nat) (hn : n < S.cnt) (k : Nat) (hw : ∀ i, i < k → (o i).x1 = 512) : sct (S.crashTo o k) n = sct S.plat n ∨ ∃ p ∈ core S.pend, p.1 = n ∧ p.2 = sct (S.crashTo o k) n := by
  induction k with
  | zero => exact .inl rfl
  | succ k ih =>
    have ih := ih fun i hi => hw i (by omega)
    rw [crashTo_succ]
    unfold DS.crash1
    cases hp : S.pend[(o k).x0.toNat]? with
    | none => exact ih
    | some p =>
      have hpm := List.mem_of_getElem? hp
      obtain ⟨h1, h2⟩ := h.ins p hpm
      have hk : (o k).x1.toNat = 512 := by rw [hw k (by omega)]; rfl
      simp only
      rw [hk, List.take_of_length_le (by omega)]
      have hcl := crashTo_len h o k
      by_cases hpn : p.n = n
      · right
        refine ⟨(p.n, p.bs), List.mem_map.2 ⟨p, hpm, rfl⟩, hpn, ?_⟩
        apply List.ext_getElem?
        intro i
        by_cases hi : i < 512
        · rw [sct_lay _ _ _ _ (by omega) (by rw [hcl]; omega) hi, if_pos ⟨hpn, by omega⟩]
        · rw [List.getElem?_eq_none (by simp only; omega), List.getElem?_eq_none (by rw [sct_len (by rw [lay_len _ _ _ (by rw [hcl]; omega), hcl]; omega)]; omega)]
      · have e : sct (Go.Proofs.Ytajhpfmfoolcjaa.lay (S.crashTo o k) (p.n * 512) p.bs) n = sct (S.crashTo o k) n := by
          apply List.ext_getElem?
          intro i
          by_cases hi : i < 512
          · rw [sct_lay _ _ _ _ (by omega) (by rw [hcl]; omega) hi, if_neg (fun e => hpn e.1)]
          · rw [List.getElem?_eq_none (by rw [sct_len (by rw [lay_len _ _ _ (by rw [hcl]; omega), hcl]; omega)]; omega), List.getElem?_eq_none (by rw [sct_len (by rw [hcl]; omega)]; omega)]
        rw [e]; exact ih
/-! The writes that the law keeps -/
theorem swT : ElT Try.prog 42 44 2 32 (.agg #[.int .i64 0, .slice none 0 0]) := ⟨by kernel_rfl, by kernel_rfl, rfl, by simp [Value.cells, Value.oneCell'], by decide⟩
structure WS (w : World) (A : Option Addr) (c : Nat) (ws : List PW) : Prop where
  row : Rw w 44 2 A ws.length c (pcells ws)
  rows : ∀ p ∈ ws, Rw w 5 1 (some ⟨p.b, 0, none⟩) 512 p.c (bv p.bs)
def wsAll (A : Option Addr) (ws : List PW) (k : Nat) : Prop := blkOf A = some k ∨ ∃ p ∈ ws, p.b = k
theorem WS.ch {w w' : World} {F : Nat → Prop} {A : Option Addr} {c : Nat} {ws : List PW} (h : WS w A c ws) (hc : Ch F w w') (hF : ∀ k, wsAll A ws k → ¬ F k) : WS w' A c ws :=
  ⟨h.row.ch hc fun k e => hF k (.inl e), fun p hp => (h.rows p hp).ch hc fun k e => hF k (.inr ⟨p, hp, by injection e⟩)⟩
theorem WS.below {w w' : World} {A : Option Addr} {c : Nat} {ws : List PW} (h : WS w A c ws) (hb : Below w.heap.size w w') : WS w' A c ws := h.ch (F := fun _ => False) (Ch.of_below hb) fun _ _ q => q
theorem WS.lt {w : World} {A : Option Addr} {c : Nat} {ws : List PW} (h : WS w A c ws) {k : Nat} (hk : wsAll A ws k) : k < w.heap.size := by
  rcases hk with e | ⟨p, hp, rfl⟩
  · exact h.row.lt k e
  · exact (h.rows p hp).blt
theorem WS.cell {w : World} {A : Option Addr} {c : Nat} {ws : List PW} (h : WS w A c ws) {j : Nat} {p : PW} (hp : ws[j]? = some p) : ∃ b, A = some ⟨b, 0, none⟩ ∧ w.cell? ⟨b, j * 2, none⟩ = some (.int .i64 (p.n : Int)) ∧ w.cell? ⟨b, j * 2 + 1, none⟩ = some p.val := by
  have hj := (List.getElem?_eq_some_iff.1 hp).1
  obtain ⟨b, rfl⟩ := h.row.some_ (by omega)
  obtain ⟨q1, q2⟩ := pcells_get hp
  exact ⟨b, rfl, (h.row.cell _ (by omega)).trans q1, (h.row.cell _ (by omega)).trans q2⟩
set_option maxRecDepth 100000 in
set_option maxHeartbeats 8000000 in
theorem mixed_ok (w : World) (lo ln : List Int) (n : Nat) (A : Option Addr) (c : Nat) (ws : List PW) (hW : WS w A c ws) (ho : lo.length = 512) (hn : ln.length = 512) (bo : ByteOK lo) (bn : ByteOK ln) (bw : ∀ p ∈ ws, ByteOK p.bs) (hmix : Mix lo ln n (core ws)) (hwl : ws.length ≤ 2 ^ 42) : Calls Try.prog 17 #[.string (str lo), .string (str ln), .int .i64 (n : Int), .slice A ws.length c] w fun e w' => e = .returned (.bool true) ∧ Below w.heap.size w w' := by
  have HW := Lib.hid hW
  have HMIX := Lib.hid hmix
  have HBY := Lib.hid (And.intro bo (And.intro bn bw))
  have HIO := Lib.hid (fun (j : Nat) (x : Int) (h : lo[j]? = some x) => idx9 h (bo x (List.mem_of_getElem? h)))
  have HIN := Lib.hid (fun (j : Nat) (x : Int) (h : ln[j]? = some x) => idx9 h (bn x (List.mem_of_getElem? h)))
  have hss : (str ln).size = 512 := by rw [str_size, hn]
  clear hW hmix bo bn bw
  generalize hso : str lo = so at *
  generalize hsn : str ln = sn at *
  clear hso hsn
  go_enter Try.func17, Try.ntmps17
  go_wp2_with fail
  go_loopg [9] (513) (fun k i_ wr => ∃ (j : Nat), i_ = .int .i64 (j : Int) ∧ k = 513 - j ∧ j ≤ 512 ∧ Below w.heap.size w wr)
  case atStart => exact ⟨0, rfl, rfl, by omega, Below.refl _ _⟩
  case round =>
    obtain ⟨j, rfl, hk, hj, hb⟩ := hrel
    have HK := Lib.hid hk
    have HB := Lib.hid hb
    by_cases hlt : j < 512
    · obtain ⟨x, hx⟩ : ∃ x, ln[j]? = some x := ⟨_, List.getElem?_eq_getElem (by omega)⟩
      obtain ⟨y, hy⟩ : ∃ y, lo[j]? = some y := ⟨_, List.getElem?_eq_getElem (by omega)⟩
      have hjd : decide ((j : Int) < 512) = true := by simp; omega
      have hix := HIN.out j x hx
      have hiy := HIO.out j y hy
      have HXY := Lib.hid (And.intro hx hy)
      have HMJ := Lib.hid (HMIX.out j hlt)
      clear hk hb hx hy
      go_wp2_with fail
      go_quiet (fail)
      go_wp2_with fail
      have hb1 : Below w.heap.size w (wr.drewN nq) := below_drewN HB.out nq
      have HB1 := Lib.hid hb1
      have HXYI := Lib.hid (show (x == y) = false → ¬ x = y by intro h; simpa using h)
      clear hb1
      go_loopg [10, 28] ws.length (fun k ok_ i_ wr => ∃ (q : Nat) (v : Bool), i_ = .int .i64 (q : Int) ∧ ok_ = .bool v ∧ k = ws.length - q ∧ q ≤ ws.length ∧ Below w.heap.size w wr ∧ (v = false → ¬ x = y ∧ ∀ p ∈ ws.take q, ¬ (p.n = n ∧ p.bs[j]? = some x)))
      case atStart => exact ⟨0, (x == y), rfl, by first | rfl | simp, rfl, by omega, HB1.out, fun h => ⟨HXYI.out h, by simp⟩⟩
      case round =>
        obtain ⟨q, v, rfl, rfl, hk, hq, hb, hv⟩ := hrel
        have HK2 := Lib.hid hk
        have HB2 := Lib.hid hb
        have HV := Lib.hid hv
        clear hk hb hv HB1
        by_cases hlq : q < ws.length
        · obtain ⟨p, hp⟩ : ∃ p, ws[q]? = some p := ⟨_, List.getElem?_eq_getElem hlq⟩
          have hW2 := HW.out.ch (F := fun _ => False) (w' := wr) (by exact Ch.of_below HB2.out) (fun _ _ h => h)
          obtain ⟨b, rfl, d0, d1⟩ := hW2.cell hp
          unfold PW.val at d1
          have hpm := List.mem_of_getElem? hp
          have hbl : p.bs.length = 512 := by have := (hW2.rows p hpm).len; rwa [bv_len, Nat.mul_one] at this
          obtain ⟨z, hz⟩ : ∃ z, p.bs[j]? = some z := ⟨_, List.getElem?_eq_getElem (by omega)⟩
          have d2 := ((hW2.rows p hpm).cell j (by omega)).trans (bv_get hz)
          have hsz := HB2.out.size
          have hBe : Below wr.heap.size wr (wr.alloc (.cells #[.int .i64 (p.n : Int), .slice (some ⟨p.b, 0, none⟩) 512 p.c] 44)) := (Below.refl _ _).alloc (Nat.le_refl _) _
          have e2 := (hBe.cell (p := ⟨p.b, j, none⟩) (cell_lt d2)).trans d2
          have e0 : (wr.alloc (.cells #[.int .i64 (p.n : Int), .slice (some ⟨p.b, 0, none⟩) 512 p.c] 44)).cell? ⟨wr.heap.size, 0, none⟩ = some (.int .i64 (p.n : Int)) := by simp [go_sem]
          have e1 : (wr.alloc (.cells #[.int .i64 (p.n : Int), .slice (some ⟨p.b, 0, none⟩) 512 p.c] 44)).cell? ⟨wr.heap.size, 1, none⟩ = some (.slice (some ⟨p.b, 0, none⟩) 512 p.c) := by simp [go_sem]
          have HN2 : Hid (∀ k, Below w.heap.size w ((wr.alloc (.cells #[.int .i64 (p.n : Int), .slice (some ⟨p.b, 0, none⟩) 512 p.c] 44)).drewN k)) := Lib.hid (fun k => below_drewN (HB2.out.alloc hsz _) k)
          have htk : ws.take (q + 1) = ws.take q ++ [p] := by rw [List.take_add_one, hp]; rfl
          have HTK := Lib.hid htk
          have HZ := Lib.hid hz
          clear hW2 hBe hpm hz htk hp d2
          cases v with
          | true =>
            clear e2
            go_wp2_with fail
            generalize hw3 : (wr.alloc (.cells #[.int .i64 (p.n : Int), .slice (some ⟨p.b, 0, none⟩) 512 p.c] 44)) = w3 at *
            generalize hob : wr.heap.size = ob at *
            clear hw3 hob
            go_quiet (fail)
            go_wp2_with fail
            go_roundg (ws.length - (q + 1))
            case measure => have := HK2.out; omega
            case rel => exact ⟨q + 1, true, by go_num, by first | rfl | simp, rfl, by omega, HN2.out _, fun h => by cases h⟩
          | false =>
            by_cases hpn : p.n = n
            · have k1 : ((p.n : Int) == (n : Int)) = true := by simp [hpn]
              by_cases hzx : z = x
              · have k2 : (z == x) = true := by simp [hzx]
                clear hpn hzx
                go_wp2_with fail
                generalize hw3 : (wr.alloc (.cells #[.int .i64 (p.n : Int), .slice (some ⟨p.b, 0, none⟩) 512 p.c] 44)) = w3 at *
                generalize hob : wr.heap.size = ob at *
                clear hw3 hob
                go_quiet (fail)
                go_wp2_with fail
                go_roundg (ws.length - (q + 1))
                case measure => have := HK2.out; omega
                case rel => exact ⟨q + 1, true, by go_num, by first | rfl | simp, rfl, by omega, HN2.out _, fun h => by cases h⟩
              · have k2 : (z == x) = false := by simpa using hzx
                have HZX := Lib.hid hzx
                clear hpn hzx
                go_wp2_with fail
                generalize hw3 : (wr.alloc (.cells #[.int .i64 (p.n : Int), .slice (some ⟨p.b, 0, none⟩) 512 p.c] 44)) = w3 at *
                generalize hob : wr.heap.size = ob at *
                clear hw3 hob
                go_quiet (fail)
                go_wp2_with fail
                go_roundg (ws.length - (q + 1))
                case measure => have := HK2.out; omega
                case rel => exact ⟨q + 1, false, by go_num, by first | rfl | simp, rfl, by omega, HN2.out _, fun _ => ⟨(HV.out (by first | rfl | trivial)).1, fun p2 hp2 => by rw [HTK.out] at hp2; rcases List.mem_append.1 hp2 with h | h; exact (HV.out (by first | rfl | trivial)).2 p2 h; rw [List.mem_singleton.1 h, HZ.out]; exact fun e => HZX.out (by injection e.2)⟩⟩
            · have k1 : ((p.n : Int) == (n : Int)) = false := by
                have : ¬ (p.n : Int) = (n : Int) := by omega
                simpa using this
              have HPN := Lib.hid hpn
              clear hpn e2
              go_wp2_with fail
              generalize hw3 : (wr.alloc (.cells #[.int .i64 (p.n : Int), .slice (some ⟨p.b, 0, none⟩) 512 p.c] 44)) = w3 at *
              generalize hob : wr.heap.size = ob at *
              clear hw3 hob
              go_quiet (fail)
              go_wp2_with fail
              go_roundg (ws.length - (q + 1))
              case measure => have := HK2.out; omega
              case rel => exact ⟨q + 1, false, by go_num, by first | rfl | simp, rfl, by omega, HN2.out _, fun _ => ⟨(HV.out (by first | rfl | trivial)).1, fun p2 hp2 => by rw [HTK.out] at hp2; rcases List.mem_append.1 hp2 with h | h; exact (HV.out (by first | rfl | trivial)).2 p2 h; rw [List.mem_singleton.1 h]; exact fun e => HPN.out e.1⟩⟩
        · obtain rfl : q = ws.length := by omega
          cases v with
          | true =>
            go_wp2_with fail
            go_roundg (513 - (j + 1))
            case measure => have := HK.out; omega
            case rel => exact ⟨j + 1, by go_num, rfl, by omega, HB2.out⟩
          | false =>
            exfalso
            obtain ⟨g1, g2⟩ := HV.out (by first | rfl | trivial)
            rw [List.take_length] at g2
            rcases HMJ.out with h | ⟨p, hp, h1, h2⟩
            · rw [HXY.out.1, HXY.out.2] at h; exact g1 (by injection h)
            · obtain ⟨p0, hp0, rfl⟩ := List.mem_map.1 hp
              exact g2 p0 hp0 ⟨h1, by rw [← HXY.out.1]; exact h2⟩
    · obtain rfl : j = 512 := by omega
      go_wp2_with fail
      go_ret
      exact ⟨by first | rfl | simp, HB.out⟩
end Go.Proofs.Ytajhpfmfoolcjaa
