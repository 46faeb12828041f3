import Derived.Test.YtngjpokbjnjodaaApartP
import Derived.Test.YtngjpokbjnjodaaLives
import Derived.OpenShut
import Derived.Deep.QuietTactic
import Derived.BigQuiet
import Derived.Deep.LoopGhost
import Derived.Deep.Cut
import Derived.Deep.CutRange
import Derived.Deep.DeepMust
/- PtabApart. -/
namespace Go.Proofs.Ytngjpokbjnjodaa
open Go.RowKit Go.BigFrame
set_option linter.unusedVariables false
set_option linter.unusedSimpArgs false
attribute [local go_sem] szIs_lit row_at row_past row_alloc nf_alloc row_set nf_set row_cell nf_cell row_drew nf_drew row_drewN nf_drewN cell_setRow frozen_setRow nlt1 nlt2 nlt3 nlt4 nne1 nne2 nne3 nen1 nen2 nen3
attribute [local go_sem] by_get by_set
theorem bs53 (x : Int) (w : World) : (Instr.buildSlice 53 1 #[(0, .int .u8 x)]).run Try.prog w = .ok (.slice (some ⟨w.heap.size, 0, none⟩) 1 1) (w.alloc (.cells #[.int .u8 x] 5)) := by
  simp [go_sem]
def fl (x : Int) (n : Nat) : List Value := List.replicate n (Value.int .u8 x)
theorem fl_succ (x : Int) (n : Nat) : fl x (n + 1) = fl x n ++ [.int .u8 x] := List.replicate_succ'
theorem take_mem {l : List Int} {q : Nat} {y x : Int} (h : l[q]? = some y) : (x ∈ l.take (q + 1)) ↔ (x ∈ l.take q ∨ y = x) := by
  rw [List.take_add_one, h]; simp [eq_comm]
theorem OI.first {fill : Int} {r : Nat} {M : Nat → Int} (h : ∀ k, k < 12 → ∀ x, x < 256 → M (k * 256 + x) = fill) : OI fill r (zf M (r * 256) 256) (fun _ => none) [(r : Int)] :=
  ⟨by simp, by intro k _ f hf; (cases hf), fun k hk hn i hi => by
    have : k ≠ r := fun e => hn (by simp [e])
    unfold zf
    rw [if_neg (by omega)]
    exact h k hk i hi⟩
set_option maxHeartbeats 16000000 in
set_option maxRecDepth 100000 in
theorem apart_walk (root : Int) (A0 : Option Addr) (len cap : Nat) (o : Nat → OpV) (fill : Int) (hf : 0 ≤ fill ∧ fill ≤ 255) (w : World) (hN : AreOp w w.heap.size A0 len cap o) : Calls Try.prog 6 #[.int .i64 root, .slice A0 len cap, .int .u8 fill] w fun r w' => r = .returned (.bool true) ∧ Below w.heap.size w w' := by
  have hlen : len ≤ 3518437208890 := by have := hN.2.2.1; unfold reachBytes at this; omega
  have HA := Lib.hid hN
  have HFI := Lib.hid hf
  have HNW := Lib.hid (new_ok 12 (by omega) (by omega) w)
  clear hN hf
  go_enter Try.func6, Try.ntmps6
  go_wp2_with fail
  refine HNW.out.mono ?_
  rintro r w1 ⟨g, b, rfl, q1, q2, q3, q4, q5, q6⟩
  have hm : MP w1 g b 12 (fun _ => 0) := ⟨q1, q2, by omega, q5, bytes_zero 0⟩
  have HM1 := Lib.hid hm
  have HB1 := Lib.hid q6
  have HQ := Lib.hid q4
  have HL := Lib.hid (lives_ok w1)
  clear q1 q2 q3 q4 q5 q6 hm HNW
  go_wp2_with fail
  refine HL.out.mono ?_
  rintro r w2 ⟨rfl, hb2⟩
  have HM2 := Lib.hid (HM1.out.below hb2)
  have HB2 := Lib.hid (HB1.out.trans (Below.mono hb2 HB1.out.size))
  clear hb2 HM1 HB1 HL
  go_wp2_with fail
  go_loopg [9, 10] 256 (fun k s_ i_ wr => ∃ (j : Nat) (A : Option Addr) (c : Nat), i_ = .int .i64 (j : Int) ∧ s_ = .slice A j c ∧ k = 256 - j ∧ j ≤ 256 ∧ Rw wr 5 1 A j c (fl fill j) ∧ Below w2.heap.size w2 wr ∧ ∀ k, blkOf A = some k → w2.heap.size ≤ k)
  case atStart => exact ⟨0, none, 0, rfl, rfl, rfl, by omega, Rw.nil _ _ _, Below.refl _ _, by simp [blkOf]⟩
  case round =>
    obtain ⟨j, A, c, rfl, rfl, hk, hj, hr, hb, hfr⟩ := hrel
    have HK := Lib.hid hk
    have HR := Lib.hid hr
    have HB := Lib.hid hb
    have HF := Lib.hid hfr
    clear hk hr hb hfr
    by_cases hlt : j < 256
    · have hbb : Below wr.heap.size wr (wr.alloc (.cells #[.int .u8 fill] 5)) := (Below.refl _ _).alloc (Nat.le_refl _) _
      obtain ⟨A2, c2, w4, e1, e2, e3, e4⟩ := rw_append (P := Try.prog) byT 53 (HR.out.below hbb) (some ⟨wr.heap.size, 0, none⟩) 1 1 [.int .u8 fill] rfl (Rd.of_cells (fun j u hu => by
        cases j with
        | zero => simp at hu; subst hu; simp [go_sem]
        | succ j => simp at hu) (by simp [Value.oneCell'])) (by intro e; cases e) (by unfold maxLen; omega) (by omega)
      have hbs := bs53 fill
      rw [← fl_succ] at e2
      have HE1 := Lib.hid e1
      have HE := Lib.hid (And.intro e2 (And.intro hbb (And.intro e3 e4)))
      clear e1 e2 e3 e4 hbb
      go_wp2_with (at_builtin; (refine wpList_run rfl (s := Builtin.append_ #[53, 53] 53 #[.slice A j c, .slice (some ⟨wr.heap.size, 0, none⟩) 1 1]) (by kernel_rfl) HE1.out ?_))
      go_roundg (256 - (j + 1))
      case measure => have := HK.out; omega
      case rel =>
        obtain ⟨x2, x1, x3, x4⟩ := HE.out
        have hsz := HB.out.size
        refine ⟨j + 1, A2, c2, by go_num, rfl, rfl, by omega, x2, HB.out.trans ((Below.mono x1 hsz).trans (x3.below (fun k hk q => ?_) (by have := x1.size; omega))), fun k q => ?_⟩
        · have := HF.out k q; omega
        · rcases x4 with e | e
          · exact HF.out k (e ▸ q)
          · rw [e] at q; injection q with q; have := x1.size; omega
    · obtain rfl : j = 256 := by omega
      obtain ⟨xb, rfl⟩ := HR.out.some_ (by omega)
      have hxb := HF.out xb rfl
      have HXB := Lib.hid (show xb ≠ b by have := HM2.out.hb.lt; omega)
      have HM3 := Lib.hid (HM2.out.below HB.out)
      have HB3 := Lib.hid (HB2.out.trans (Below.mono HB.out HB2.out.size))
      clear HM2 HB2 hxb HF HK
      go_wp2_with fail
      go_loopg [11] 12 (fun k i_ wx => ∃ (i : Nat) (M : Nat → Int), i_ = .int .i64 (i : Int) ∧ k = 12 - i ∧ i ≤ 12 ∧ MP wx g b 12 M ∧ (∀ k, k < i → ∀ x, x < 256 → M (k * 256 + x) = fill) ∧ Rw wx 5 1 (some ⟨xb, 0, none⟩) 256 c (fl fill 256) ∧ Below w.heap.size w wx)
      case atStart => exact ⟨0, _, rfl, rfl, by omega, HM3.out, by intro k hk; omega, HR.out, HB3.out⟩
      case round =>
        clear HM3 HB3 HR HB
        obtain ⟨i, M, rfl, hk, hi, hm, hfm, hr, hb⟩ := hrel
        have HK := Lib.hid hk
        have HM := Lib.hid hm
        have HFM := Lib.hid hfm
        have HR := Lib.hid hr
        have HB := Lib.hid hb
        clear hk hm hfm hr hb
        by_cases hlt2 : i < 12
        · have HW := Lib.hid (write_ok HM.out i hlt2 ⟨xb, 0, none⟩ c fill ⟨HFI.out.1, by have := HFI.out.2; omega⟩ (fun j hj => by
            rw [plain_add, Nat.zero_add]
            refine (HR.out.cell j (by omega)).trans ?_
            unfold fl; rw [List.getElem?_replicate, if_pos hj]))
          go_wp2_with fail
          refine HW.out.mono ?_
          rintro r w5 ⟨⟨v, rfl⟩, hm, hg⟩
          have HM5 := Lib.hid hm
          have HR5 := Lib.hid (HR.out.heap fun k hk => by injection hk with hk; subst hk; exact hg.block xb HR.out.blt (by intro e; injection e with e; exact HXB.out e))
          have HB5 := Lib.hid (below_only HB.out hg HQ.out HB.out.size)
          clear hm hg HW
          go_wp2_with fail
          go_roundg (12 - (i + 1))
          case measure => have := HK.out; omega
          case rel => exact ⟨i + 1, _, by go_num, rfl, by omega, HM5.out, fun k hk x hx => by
            unfold filM
            by_cases hki : k = i
            · subst hki; rw [if_pos (by omega)]
            · rw [if_neg (by omega)]; exact HFM.out k (by omega) x hx, HR5.out, HB5.out⟩
        · obtain rfl : i = 12 := by omega
          by_cases hroot : 0 ≤ root ∧ root < 12
          · obtain ⟨r, rfl⟩ := Int.eq_ofNat_of_zero_le hroot.1
            have hr12 : r < 12 := by omega
            have HNT := Lib.hid (newt_ok HM.out r hr12)
            have HQ2 := Lib.hid HM.out.hb.lt
            have HQ3 := Lib.hid HM.out.hg.lt
            clear HR HK HXB HM
            go_wp2_with fail
            refine HNT.out.mono ?_
            rintro r w5 ⟨t, rfl, q1, q2, q3, q4⟩
            have HS5 := Lib.hid (show TSM w5 g b 12 t r (zf M (r * 256) 256) (fun _ => none) (fun _ => 0) from ⟨q1, TB.zero _ _ _, q2, by have := HQ2.out; omega, hr12⟩)
            have HB5 := Lib.hid (below_only HB.out q4 HQ.out HB.out.size)
            have HI5 := Lib.hid (OI.first (r := r) (fun k hk x hx => HFM.out k hk x hx))
            obtain ⟨S5, hS5⟩ : ∃ S5, w5.heap.size = S5 := ⟨_, rfl⟩
            have HL5 := Lib.hid (show (g < S5 ∧ b < S5 ∧ t < S5) ∧ w.heap.size ≤ S5 from ⟨⟨by have := q1.hg.lt; omega, by have := q1.hb.lt; omega, by have := q2.lt; omega⟩, by have := HB5.out.size; omega⟩)
            have HSZ := Lib.hid hS5
            have hbs := bs41 (r : Int) w5
            have hR0 : Rw (w5.alloc (.cells #[.int .i64 (r : Int)] 3)) 3 1 (some ⟨w5.heap.size, 0, none⟩) 1 1 (iv [(r : Int)]) := by
              have := Rw.fresh (s := 1) w5 3 #[.int .i64 (r : Int)] 1 1 (by omega) (by unfold maxLen; omega) rfl
              simpa [iv] using this
            have HR0 := Lib.hid hR0
            have HW6 := Lib.hid (show Below w5.heap.size w5 (w5.alloc (.cells #[.int .i64 (r : Int)] 3)) from (Below.refl _ _).alloc (Nat.le_refl _) _)
            clear q1 q2 q3 q4 HNT HFM hS5 hR0 HB hroot HQ2 HQ3
            go_wp2_with fail
            clear hbs
            go_loopg [13, 14] len (fun k s_ i_ wr => ∃ (j : Nat) (A : Option Addr) (c : Nat) (own : List Int) (M : Nat → Int) (L : Nat → Option Nat) (E : Nat → Int), i_ = .int .i64 (j : Int) ∧ s_ = .slice A own.length c ∧ k = len - j ∧ j ≤ len ∧ own.length ≤ 1 + j ∧ TSM wr g b 12 t r M L E ∧ OI fill r M L own ∧ Rw wr 3 1 A own.length c (iv own) ∧ (∀ k, blkOf A = some k → S5 ≤ k) ∧ Below w.heap.size w wr)
            case atStart => exact ⟨0, _, 1, [(r : Int)], _, _, _, rfl, rfl, rfl, by omega, by simp, HS5.out.below HW6.out, HI5.out, HR0.out, (by intro k e; simp [blkOf] at e; have := HSZ.out; omega), HB5.out.trans (Below.mono HW6.out HB5.out.size)⟩
            case round =>
              clear HS5 HI5 HR0 HW6 HB5
              obtain ⟨j, A, c, own, M, L, E, rfl, rfl, hk, hj, hol, hts, hoi, hr, hfr, hb⟩ := hrel
              have HK := Lib.hid hk
              have HT := Lib.hid hts
              have HOI := Lib.hid hoi
              have HR := Lib.hid hr
              have HF := Lib.hid hfr
              have HB := Lib.hid hb
              obtain ⟨n, hn⟩ : ∃ n, own.length = n := ⟨_, rfl⟩
              have HN := Lib.hid hn
              rw [hn] at hol hr
              rw [hn]
              have HR := Lib.hid hr
              clear hk hts hoi hr hfr hb hn
              by_cases hlt3 : j < len
              · obtain ⟨ab, off, rfl, hab, hat⟩ := HA.out.2.2.2 (by omega)
                have hi := hat j hlt3
                obtain ⟨KD, hKD⟩ : ∃ z, (o j).x0 = z := ⟨_, rfl⟩
                obtain ⟨PG, hPG⟩ : ∃ z, (o j).x1 = z := ⟨_, rfl⟩
                obtain ⟨EN, hEN⟩ : ∃ z, (o j).x2 = z := ⟨_, rfl⟩
                obtain ⟨SP, hSP⟩ : ∃ z, (o j).x3 = z := ⟨_, rfl⟩
                unfold IsOp at hi
                rw [hKD, hPG, hEN, hSP] at hi
                have HV := Lib.hid (Go.bounds_u32 hi.2.2.2.2.2.1)
                have HOP := Lib.hid (show ∀ u, Below w.heap.size w u → u.cell? ⟨ab, off + j * 6, none⟩ = some (.int .i64 KD) ∧ u.cell? ⟨ab, off + j * 6 + 1, none⟩ = some (.int .i64 PG) ∧ u.cell? ⟨ab, off + j * 6 + 2, none⟩ = some (.int .u32 EN) ∧ u.cell? ⟨ab, off + j * 6 + 3, none⟩ = some (.int .i64 SP) from fun u h => ⟨(h.cell hab).trans hi.1, (h.cell hab).trans hi.2.2.1, (h.cell hab).trans hi.2.2.2.2.1, (h.cell hab).trans hi.2.2.2.2.2.2.1⟩)
                obtain ⟨d0, -, -, d3⟩ := HOP.out wr HB.out
                clear hi hat hab hKD hPG hEN hSP
                have HREL := Lib.hid (show ∀ u, Below wr.heap.size wr u → TSM u g b 12 t r M L E ∧ Rw u 3 1 A n c (iv own) ∧ Below w.heap.size w u from fun u h => ⟨HT.out.below h, HR.out.below h, HB.out.trans (Below.mono h HB.out.size)⟩)
                by_cases hkd : KD = 1
                · have k1 : (KD != 1) = false := by simp [hkd]
                  clear hkd
                  have hn1 : 0 < n := by have := List.length_pos_of_mem HOI.out.r; have := HN.out; omega
                  obtain ⟨ab2, rfl⟩ := HR.out.some_ hn1
                  have HAB := Lib.hid (show S5 ≤ ab2 from HF.out ab2 rfl)
                  go_wp2_with fail
                  clear d0
                  go_loopg [15, 16] n (fun k t_ i_ wx => ∃ (q : Nat), t_ = .bool (decide (SP ∈ own.take q)) ∧ i_ = .int .i64 (q : Int) ∧ k = n - q ∧ q ≤ n ∧ ∃ m2, wx = wr.drewN m2)
                  case atStart => exact ⟨0, by simp, rfl, rfl, by omega, 0, rfl⟩
                  case round =>
                    obtain ⟨q, rfl, rfl, hk4, hq4, m2, rfl⟩ := hrel
                    have HK4 := Lib.hid hk4
                    clear hk4
                    by_cases hlt4 : q < n
                    · obtain ⟨y, hy⟩ : ∃ y, own[q]? = some y := ⟨_, List.getElem?_eq_getElem (by have := HN.out; omega)⟩
                      have d4 : wr.cell? ⟨ab2, q, none⟩ = some (.int .i64 y) := (HR.out.cell q (by omega)).trans (iv_get hy)
                      have HTM := Lib.hid (take_mem (x := SP) hy)
                      obtain ⟨tb, htb⟩ : ∃ tb, decide (SP ∈ own.take q) = tb := ⟨_, rfl⟩
                      have HTB := Lib.hid htb
                      rw [htb]
                      clear hy htb
                      cases tb with
                      | true =>
                        go_wp2_with fail
                        go_quiet (fail)
                        go_wp2_with fail
                        go_roundg (n - (q + 1))
                        case measure => have := HK4.out; omega
                        case rel => exact ⟨q + 1, by rw [decide_eq_true (HTM.out.2 (.inl (of_decide_eq_true HTB.out)))], by go_num, rfl, by omega, _, rfl⟩
                      | false =>
                        by_cases hys : y = SP
                        · have k5 : (y == SP) = true := by simp [hys]
                          have HYS := Lib.hid hys
                          clear hys
                          go_wp2_with fail
                          go_quiet (fail)
                          go_wp2_with fail
                          go_roundg (n - (q + 1))
                          case measure => have := HK4.out; omega
                          case rel => exact ⟨q + 1, by rw [decide_eq_true (HTM.out.2 (.inr HYS.out))], by go_num, rfl, by omega, _, rfl⟩
                        · have k5 : (y == SP) = false := by simpa using hys
                          have HYS := Lib.hid hys
                          clear hys
                          go_wp2_with fail
                          go_quiet (fail)
                          go_wp2_with fail
                          go_roundg (n - (q + 1))
                          case measure => have := HK4.out; omega
                          case rel => exact ⟨q + 1, by rw [decide_eq_false (fun h => (HTM.out.1 h).elim (of_decide_eq_false HTB.out) HYS.out)], by go_num, rfl, by omega, _, rfl⟩
                    · obtain rfl : n = q := by omega
                      have hown : own.take n = own := List.take_of_length_le (by rw [HN.out]; exact Nat.le_refl _)
                      rw [hown]
                      obtain ⟨tb, htb⟩ : ∃ tb, decide (SP ∈ own) = tb := ⟨_, rfl⟩
                      have HTB := Lib.hid htb
                      rw [htb]
                      have hBQ : Below wr.heap.size wr (wr.drewN m2) := below_drewN (Below.refl _ _) m2
                      have HBQ := Lib.hid hBQ
                      clear htb hown HK4 d3 hBQ
                      cases tb with
                      | true =>
                        go_wp2_with fail
                        go_roundg (len - (j + 1))
                        case measure => have := HK.out; omega
                        case rel =>
                          obtain ⟨g1, g2, g3⟩ := HREL.out _ HBQ.out
                          exact ⟨j + 1, _, c, own, M, L, E, by go_num, by rw [HN.out], rfl, by omega, by have := HN.out; omega, g1, HOI.out, by rw [HN.out]; exact g2, HF.out, g3⟩
                      | false =>
                        have hBQ := HBQ.out
                        obtain ⟨wq, hwq⟩ : ∃ wq, wr.drewN m2 = wq := ⟨_, rfl⟩
                        rw [hwq] at hBQ ⊢
                        obtain ⟨TT, hTT⟩ : ∃ TT : World → Prop, TT = fun u => Below w.heap.size w u := ⟨_, rfl⟩
                        have HTT := Lib.hid (show ∀ u, TT u → Below w.heap.size w u from fun u h => by rw [hTT] at h; exact h)
                        have HTI := Lib.hid (show ∀ u, Below w.heap.size w u → TT u from fun u h => by rw [hTT]; exact h)
                        obtain ⟨CC, hCC⟩ : ∃ CC : World → Prop, CC = fun u => Below wr.heap.size wr u := ⟨_, rfl⟩
                        have HCC := Lib.hid (show ∀ u, CC u → Below wr.heap.size wr u from fun u h => by rw [hCC] at h; exact h)
                        have KA := Lib.hid (show CC wq.drew from by rw [hCC]; exact hBQ.drew)
                        obtain ⟨SV, hSV⟩ : ∃ SV : Value → World → Prop, SV = fun v u => ∃ uu vv M' L' E', v = .tuple #[.bool uu, .int .i64 vv] ∧ TSM u g b 12 t r M' L' E' ∧ OI fill r M' L' (if uu = true ∧ vv = 0 then own ++ [SP] else own) ∧ Rw u 3 1 (some ⟨ab2, 0, none⟩) n c (iv own) ∧ Below w.heap.size w u := ⟨_, rfl⟩
                        have HSVE := Lib.hid (show ∀ v u, SV v u → ∃ uu vv M' L' E', v = .tuple #[.bool uu, .int .i64 vv] ∧ TSM u g b 12 t r M' L' E' ∧ OI fill r M' L' (if uu = true ∧ vv = 0 then own ++ [SP] else own) ∧ Rw u 3 1 (some ⟨ab2, 0, none⟩) n c (iv own) ∧ Below w.heap.size w u from fun v u h => by rw [hSV] at h; exact h)
                        have hnot : SP ∉ own := of_decide_eq_false HTB.out
                        have HSTEP := Lib.hid (show ∀ u, CC u → Calls Try.prog 23 #[.pointer (some ⟨t, 0, none⟩), .int .i64 PG, .int .u32 EN, .int .i64 SP] u fun r' u' => ∃ uu vv, r' = .returned (.tuple #[.bool uu, .int .i64 vv]) ∧ SV (.tuple #[.bool uu, .int .i64 vv]) u' ∧ TT u' from fun u hc => by
                          obtain ⟨g1, g2, g3⟩ := HREL.out u (HCC.out u hc)
                          refine (set_m g1 PG EN SP HV.out (fun s hs => ⟨fun e => hnot (by rw [hs, e]; exact HOI.out.r), fun k hk hl => hnot (by rw [hs]; exact HOI.out.l k hk s hl)⟩)).mono ?_
                          rintro r' u' ⟨uu, vv, M', L', E', rfl, hts, hg, hR, hD⟩
                          have hbw := below_only g3 hg HQ.out g3.size
                          refine ⟨uu, vv, rfl, ?_, HTI.out _ hbw⟩
                          rw [hSV]
                          exact ⟨uu, vv, M', L', E', rfl, hts, HOI.out.step hR hD, g2.heap fun k hk => by injection hk with hk; subst hk; exact hg.block ab2 g2.blt (by intro e; injection e with e; have := HAB.out; have := HL5.out.1.2.1; omega), hbw⟩)
                        have k0 : TT wq.drew := HTI.out _ (HREL.out _ hBQ.drew).2.2
                        clear hTT hCC hSV hnot hBQ HBQ hwq HV
                        go_wp2_with fail
                        refine wp_theta [16] [16] (fun i v => ∃ uu vv, v = .tuple #[.bool uu, .int .i64 vv]) (fun ρ D u => TT u ∧ (D 16 = true → SV (ρ 16) u) ∧ (D 16 = false → CC u)) (TT) ?_ ?_ ?_ ?_ ?_ ?_ ?_ ?_ ?_ ?_
                        · kernel_rfl
                        · kernel_rfl
                        · kernel_rfl
                        · kernel_rfl
                        · kernel_rfl
                        · kernel_rfl
                        · exact fun i hi => ⟨_, false, 0, rfl⟩
                        · exact ⟨k0, by simp, fun _ => KA.out⟩
                        · exact fun ρ D u h => h.1
                        · intro θ hθ
                          simp only [SegsT, List.take_succ_cons, List.take_zero, List.drop_succ_cons, List.drop_zero, Nat.sub_zero, Nat.reduceSub, Nat.reduceAdd, List.drop_nil, List.take_nil]
                          haveI i1 : Nonempty (Wd TT) := ⟨⟨_, k0⟩⟩
                          have l1 : ∀ s : Wd TT, s.val.cell? ⟨ab, off + j * 6 + 1, none⟩ = some (.int .i64 PG) := fun s => (HOP.out _ (HTT.out _ s.prop)).2.1
                          have l2 : ∀ s : Wd TT, s.val.cell? ⟨ab, off + j * 6 + 2, none⟩ = some (.int .u32 EN) := fun s => (HOP.out _ (HTT.out _ s.prop)).2.2.1
                          have l3 : ∀ s : Wd TT, s.val.cell? ⟨ab, off + j * 6 + 3, none⟩ = some (.int .i64 SP) := fun s => (HOP.out _ (HTT.out _ s.prop)).2.2.2
                          clear k0
                          obtain ⟨uu, vv, t16⟩ := hθ 16 (by decide)
                          repeat (go_big_quiet_step (fail))
                          refine wpQuiet_nil ?_
                          rw [if_pos (by decide)]
                          refine ⟨thOK_call [] [] 23 _ _ (by kernel_rfl) rfl (by kernel_rfl) #[.pointer (some ⟨t, 0, none⟩), .int .i64 PG, .int .u32 EN, .int .i64 SP] (by kernel_rfl) (by kernel_rfl) (fun ρ D u hq hK => ?_), ?_⟩
                          · have h16 := hq.now
                            refine (HSTEP.out u (hK.2.2 h16)).mono ?_
                            rintro r' u' ⟨u1, v1, rfl, hs, ht⟩
                            exact ⟨_, rfl, ⟨u1, v1, rfl⟩, ht, fun _ => hs, by simp [upd]⟩
                          rw [t16]
                          try go_frame
                          repeat (go_big_quiet_step (fail))
                          refine wpQuiet_nil ?_
                          intro u hK
                          have hSV2 : SV (θ 16) u := hK.2.1 rfl
                          rw [t16] at hSV2
                          obtain ⟨u1, v1, M2, L2, E2, e16, hts, hoi, hrw, hbw⟩ := HSVE.out _ _ hSV2
                          simp at e16
                          obtain ⟨rfl, rfl⟩ := e16
                          have HT2 := Lib.hid hts
                          have HO2 := Lib.hid hoi
                          have HR2 := Lib.hid hrw
                          have HB2 := Lib.hid hbw
                          have d3 := (HOP.out u hbw).2.2.2
                          clear hK hSV2 hts hoi hrw hbw t16 l1 l2 l3 i1 hθ KA HSTEP HSVE HTT HTI HCC HREL HOP
                          cases uu with
                          | false =>
                            go_wp2_with fail
                            go_roundg (len - (j + 1))
                            case measure => have := HK.out; omega
                            case rel => exact ⟨j + 1, _, c, own, M2, L2, E2, by go_num, by rw [HN.out], rfl, by omega, by have := HN.out; omega, HT2.out, by simpa using HO2.out, by rw [HN.out]; exact HR2.out, HF.out, HB2.out⟩
                          | true =>
                            by_cases hv : vv = 0
                            · have k2 : (vv == 0) = true := by simp [hv]
                              have HO3 := Lib.hid (show OI fill r M2 L2 (own ++ [SP]) by have := HO2.out; rwa [if_pos ⟨rfl, hv⟩] at this)
                              have hbb : Below u.heap.size u (u.alloc (.cells #[.int .i64 SP] 3)) := (Below.refl _ _).alloc (Nat.le_refl _) _
                              obtain ⟨A2, c2, w8, e1, e2, e3, e4⟩ := rw_append (P := Try.prog) intT 41 (HR2.out.below hbb) (some ⟨u.heap.size, 0, none⟩) 1 1 [.int .i64 SP] rfl (Rd.of_cells (fun j u hu => by
                                cases j with
                                | zero => simp at hu; subst hu; simp [go_sem]
                                | succ j => simp at hu) (by simp [Value.oneCell'])) (by intro e; cases e) (by unfold maxLen; omega) (by omega)
                              have hbs := bs41 SP
                              have HE1 := Lib.hid e1
                              have HE := Lib.hid (And.intro e2 (And.intro hbb (And.intro e3 e4)))
                              clear e1 e2 e3 e4 hbb hv
                              go_wp2_with (at_builtin; (refine wpList_run rfl (s := Builtin.append_ #[41, 41] 41 #[.slice (some ⟨ab2, 0, none⟩) n c, .slice (some ⟨u.heap.size, 0, none⟩) 1 1]) (by kernel_rfl) HE1.out ?_))
                              go_roundg (len - (j + 1))
                              case measure => have := HK.out; omega
                              case rel =>
                                obtain ⟨x2, x1, x3, x4⟩ := HE.out
                                have hsz := HB2.out.size
                                have el : (own ++ [SP]).length = n + 1 := by rw [List.length_append, HN.out]; rfl
                                have ev : iv (own ++ [SP]) = iv own ++ [.int .i64 SP] := by simp [iv]
                                have hS5 : S5 ≤ u.heap.size := by have := HAB.out; have := HR2.out.blt; omega
                                have hw5 := HL5.out.2
                                have hab := HAB.out
                                have hB8 : Below S5 u w8 := (Below.mono x1 hS5).trans (x3.below (fun k hk q => by simp [blkOf] at q; omega) (by have := x1.size; omega))
                                refine ⟨j + 1, A2, c2, own ++ [SP], M2, L2, E2, by go_num, by rw [el], rfl, by omega, by rw [el]; omega, HT2.out.belowB hB8 HL5.out.1, HO3.out, by rw [el, ev]; exact x2, fun k q => ?_, HB2.out.trans (Below.mono hB8 hw5)⟩
                                rcases x4 with e | e
                                · rw [e] at q; simp [blkOf] at q; omega
                                · rw [e] at q; injection q with q; have := x1.size; omega
                            · have k2 : (vv == 0) = false := by simpa using hv
                              have HO3 := Lib.hid (show OI fill r M2 L2 own by have := HO2.out; rwa [if_neg (fun h => hv h.2)] at this)
                              clear hv
                              go_wp2_with fail
                              go_roundg (len - (j + 1))
                              case measure => have := HK.out; omega
                              case rel => exact ⟨j + 1, _, c, own, M2, L2, E2, by go_num, by rw [HN.out], rfl, by omega, by have := HN.out; omega, HT2.out, HO3.out, by rw [HN.out]; exact HR2.out, HF.out, HB2.out⟩
                · have k1 : (KD != 1) = true := by simpa using hkd
                  clear hkd
                  go_wp2_with fail
                  go_roundg (len - (j + 1))
                  case measure => have := HK.out; omega
                  case rel => exact ⟨j + 1, A, c, own, M, L, E, by go_num, by rw [HN.out], rfl, by omega, by have := HN.out; omega, HT.out, HOI.out, by rw [HN.out]; exact HR.out, HF.out, HB.out⟩
              · obtain rfl : j = len := by omega
                have HM := Lib.hid HT.out.mp
                have HLN := Lib.hid hlen
                clear HK HT
                go_wp2_with fail
                go_loopg [19] 12 (fun k i_ wx => ∃ (i : Nat), i_ = .int .i64 (i : Int) ∧ k = 12 - i ∧ i ≤ 12 ∧ MP wx g b 12 M ∧ Rw wx 3 1 A n c (iv own) ∧ Below w.heap.size w wx)
                case atStart => exact ⟨0, rfl, rfl, by omega, HM.out, HR.out, HB.out⟩
                case round =>
                  clear HM HR HB
                  obtain ⟨i, rfl, hk, hi, hm, hr, hb⟩ := hrel
                  have HK := Lib.hid hk
                  have HM := Lib.hid hm
                  have HR := Lib.hid hr
                  have HB := Lib.hid hb
                  clear hk hm hr hb
                  by_cases hlt5 : i < 12
                  · have hn1 : 0 < n := by have := List.length_pos_of_mem HOI.out.r; have := HN.out; omega
                    obtain ⟨ab2, rfl⟩ := HR.out.some_ hn1
                    go_wp2_with fail
                    go_loopg [20, 21] n (fun k t_ i_ wx => wx = wr ∧ ∃ (q : Nat), t_ = .bool (decide ((i : Int) ∈ own.take q)) ∧ i_ = .int .i64 (q : Int) ∧ k = n - q ∧ q ≤ n)
                    case atStart => exact ⟨rfl, 0, by simp, rfl, rfl, by omega⟩
                    case round =>
                      obtain ⟨rfl, q, rfl, rfl, hk4, hq4⟩ := hrel
                      have HK4 := Lib.hid hk4
                      clear hk4
                      by_cases hlt4 : q < n
                      · obtain ⟨y, hy⟩ : ∃ y, own[q]? = some y := ⟨_, List.getElem?_eq_getElem (by have := HN.out; omega)⟩
                        have d4 := (HR.out.cell q (by omega)).trans (iv_get hy)
                        have HTM := Lib.hid (take_mem (x := (i : Int)) hy)
                        obtain ⟨tb, htb⟩ : ∃ tb, decide ((i : Int) ∈ own.take q) = tb := ⟨_, rfl⟩
                        have HTB := Lib.hid htb
                        rw [htb]
                        clear hy htb
                        cases tb with
                        | true =>
                          go_wp2_with fail
                          go_roundg (n - (q + 1))
                          case measure => have := HK4.out; omega
                          case rel => exact ⟨rfl, q + 1, by rw [decide_eq_true (HTM.out.2 (.inl (of_decide_eq_true HTB.out)))], by go_num, rfl, by omega⟩
                        | false =>
                          by_cases hys : y = (i : Int)
                          · have k5 : (y == (i : Int)) = true := by simp [hys]
                            have HYS := Lib.hid hys
                            clear hys
                            go_wp2_with fail
                            go_roundg (n - (q + 1))
                            case measure => have := HK4.out; omega
                            case rel => exact ⟨rfl, q + 1, by rw [decide_eq_true (HTM.out.2 (.inr HYS.out))], by go_num, rfl, by omega⟩
                          · have k5 : (y == (i : Int)) = false := by simpa using hys
                            have HYS := Lib.hid hys
                            clear hys
                            go_wp2_with fail
                            go_roundg (n - (q + 1))
                            case measure => have := HK4.out; omega
                            case rel => exact ⟨rfl, q + 1, by rw [decide_eq_false (fun h => (HTM.out.1 h).elim (of_decide_eq_false HTB.out) HYS.out)], by go_num, rfl, by omega⟩
                      · obtain rfl : n = q := by omega
                        have hown : own.take n = own := List.take_of_length_le (by rw [HN.out]; exact Nat.le_refl _)
                        rw [hown]
                        obtain ⟨tb, htb⟩ : ∃ tb, decide ((i : Int) ∈ own) = tb := ⟨_, rfl⟩
                        have HTB := Lib.hid htb
                        rw [htb]
                        have HFC := Lib.hid (frame_cl HM.out i hlt5)
                        clear htb hown HK4
                        go_wp2_with fail
                        refine HFC.out.mono ?_
                        rintro r' w9 ⟨⟨x, c9, rfl, hx, hx2⟩, hb9⟩
                        have HX := Lib.hid hx
                        have HM9 := Lib.hid (HM.out.below hb9)
                        have HR9 := Lib.hid (HR.out.below hb9)
                        have HB9 := Lib.hid (HB.out.trans (Below.mono hb9 HB.out.size))
                        clear hx hx2 hb9 HFC
                        go_wp2_with fail
                        go_loopg [24] 256 (fun k i_ wx => wx = w9 ∧ ∃ (q : Nat), i_ = .int .i64 (q : Int) ∧ k = 256 - q ∧ q ≤ 256)
                        case atStart => exact ⟨rfl, 0, rfl, rfl, by omega⟩
                        case round =>
                          obtain ⟨rfl, q, rfl, hk4, hq4⟩ := hrel
                          have HK4 := Lib.hid hk4
                          clear hk4
                          by_cases hlt6 : q < 256
                          · cases tb with
                            | true =>
                              go_wp2_with fail
                              go_roundg (256 - (q + 1))
                              case measure => have := HK4.out; omega
                              case rel => exact ⟨rfl, q + 1, by go_num, rfl, by omega⟩
                            | false =>
                              have d9 := HX.out.cell q (by omega)
                              rw [show (pv M (i * 256))[q]? = some (.int .u8 fill) by
                                unfold pv
                                rw [List.getElem?_map, List.getElem?_range hlt6, Option.map_some, HOI.out.f i hlt5 (of_decide_eq_false HTB.out) q hlt6]] at d9
                              go_wp2_with fail
                              go_roundg (256 - (q + 1))
                              case measure => have := HK4.out; omega
                              case rel => exact ⟨rfl, q + 1, by go_num, rfl, by omega⟩
                          · obtain rfl : q = 256 := by omega
                            go_wp2_with fail
                            go_roundg (12 - (i + 1))
                            case measure => have := HK.out; omega
                            case rel => exact ⟨i + 1, by go_num, rfl, by omega, HM9.out, HR9.out, HB9.out⟩
                  · obtain rfl : i = 12 := by omega
                    go_wp2
                    go_ret
                    exact ⟨by first | rfl | simp, HB.out⟩
          · have HNT := Lib.hid (newt_no HM.out root hroot)
            have HBE := Lib.hid HB.out
            by_cases h0 : root < 0
            · clear hroot HR HM HFM
              go_wp2_with fail
              refine HNT.out.mono ?_
              rintro r w' ⟨rfl, rfl⟩
              go_wp2
              go_ret
              exact ⟨by first | rfl | simp, HBE.out⟩
            · have h1 : 0 ≤ root := by omega
              have h2 : decide (root ≥ 12) = true := by simp; omega
              clear hroot HR HM HFM h0
              go_wp2_with fail
              refine HNT.out.mono ?_
              rintro r w' ⟨rfl, rfl⟩
              go_wp2
              go_ret
              exact ⟨by first | rfl | simp, HBE.out⟩
end Go.Proofs.Ytngjpokbjnjodaa
