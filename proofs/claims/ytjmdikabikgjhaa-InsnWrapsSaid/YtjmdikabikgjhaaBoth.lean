import Derived.Test.YtjmdikabikgjhaaFin
import Derived.Test.YtjmdikabikgjhaaMem
import Derived.Test.YtjmdikabikgjhaaVal
import Derived.Test.YtjmdikabikgjhaaCodec
import Derived.Test.YtjmdikabikgjhaaRefn
import Derived.Test.YtjmdikabikgjhaaStepP
import Derived.Test.YtjmdikabikgjhaaStepR
import Derived.Test.YtjmdikabikgjhaaBits
/- The program and the reference do the same: Decode, Encode, value, taken and branches, Step, Finish. -/
namespace Go.Proofs.Ytjmdikabikgjhaa
open Go.RowKit

def opOf (x : Int) : Int := x % 256
def regA (x : Int) : Nat := (x / 256 % 16).toNat
def regB (x : Int) : Nat := (x / 4096 % 16).toNat
def immOf (x : Int) : Int := if 32768 ≤ x / 65536 then x / 65536 - 65536 else x / 65536
def word (x : Int) : Prop := 0 ≤ x ∧ x ≤ 4294967295

theorem regA_lt (x : Int) : regA x < 16 := by unfold regA; omega
theorem regB_lt (x : Int) : regB x < 16 := by unfold regB; omega

/-- Both tell this, and lay memory of their own alone. -/
def Both (f g : FuncId) (xs ys : Array Value) (v : Value) : Prop :=
  (∀ w, Calls Try.prog f xs w fun e w' => e = .returned v ∧ Below w.heap.size w w') ∧ (∀ w, Calls Try.prog g ys w fun e w' => e = .returned v ∧ Below w.heap.size w w')

theorem dec_facts (x : Int) (h : word x) : bits BinOp.and IntKind.u32 x 255 = opOf x ∧ bits BinOp.and IntKind.u32 (x / 256) 15 = (regA x : Int) ∧ bits BinOp.and IntKind.u32 (x / 4096) 15 = (regB x : Int) ∧
    IntKind.i16.wrap (x / 65536) = immOf x ∧ -32768 ≤ immOf x ∧ immOf x ≤ 32767 ∧ x / 256 % 16 = (regA x : Int) ∧ x / 4096 % 16 = (regB x : Int) := by
  obtain ⟨h0, h1⟩ := h
  refine ⟨and255 x h0 h1, ?_, ?_, ?_, ?_, ?_, ?_, ?_⟩
  · rw [and15 _ (by omega) (by omega)]; unfold regA; omega
  · rw [and15 _ (by omega) (by omega)]; unfold regB; omega
  · rw [i16_wrap]; unfold immOf; split <;> omega
  · unfold immOf; split <;> omega
  · unfold immOf; split <;> omega
  · unfold regA; omega
  · unfold regB; omega

theorem dec_ok (x : Int) (h : word x) (c1 : 1 ≤ opOf x) (c2 : opOf x ≤ 28) :
    Both 10 11 #[.int .u32 x] #[.int .u32 x] (.tuple #[.agg #[.int .i64 (opOf x), .int .i64 (regA x), .int .i64 (regB x), .int .i64 (immOf x)], .int .i64 0]) := by
  obtain ⟨f1, f2, f3, f4, f5, f6, f7, f8⟩ := dec_facts x h
  obtain ⟨h0, h1⟩ := h
  refine ⟨fun w => dec_p_ok x (opOf x) (immOf x) 0 (regA x) (regB x) w h0 h1 (regA_lt x) (regB_lt x) (by omega) (by omega) f1 f2 f3 f4 f5 f6 c1 c2, fun w => ?_⟩
  by_cases hu : 32768 ≤ x / 65536
  · have e : immOf x = x / 65536 - 65536 := if_pos hu
    rw [e]; exact dec_r_okn x (opOf x) 0 (x / 65536) (regA x) (regB x) w h0 h1 (regA_lt x) (regB_lt x) (by omega) (by omega) rfl f7 f8 rfl (by omega) (by omega) c1 c2 hu
  · have e : immOf x = x / 65536 := if_neg hu
    rw [e]; exact dec_r_okp x (opOf x) 0 (x / 65536) (regA x) (regB x) w h0 h1 (regA_lt x) (regB_lt x) (by omega) (by omega) rfl f7 f8 rfl (by omega) (by omega) c1 c2 hu

theorem dec_bad (x : Int) (h : word x) (c : ¬ (1 ≤ opOf x ∧ opOf x ≤ 28)) :
    Both 10 11 #[.int .u32 x] #[.int .u32 x] (.tuple #[.agg #[.int .i64 0, .int .i64 0, .int .i64 0, .int .i64 0], .int .i64 30]) := by
  obtain ⟨f1, f2, f3, f4, f5, f6, f7, f8⟩ := dec_facts x h
  obtain ⟨h0, h1⟩ := h
  have o0 : 0 ≤ opOf x := by unfold opOf; omega
  have o1 : opOf x < 256 := by unfold opOf; omega
  by_cases c1 : opOf x < 1
  · refine ⟨fun w => dec_p_lo x (opOf x) (immOf x) 0 (regA x) (regB x) w h0 h1 (regA_lt x) (regB_lt x) o0 o1 f1 f2 f3 f4 f5 f6 c1, fun w => ?_⟩
    by_cases hu : 32768 ≤ x / 65536
    · exact dec_r_lon x (opOf x) 0 (x / 65536) (regA x) (regB x) w h0 h1 (regA_lt x) (regB_lt x) o0 o1 rfl f7 f8 rfl (by omega) (by omega) c1 hu
    · exact dec_r_lop x (opOf x) 0 (x / 65536) (regA x) (regB x) w h0 h1 (regA_lt x) (regB_lt x) o0 o1 rfl f7 f8 rfl (by omega) (by omega) c1 hu
  · refine ⟨fun w => dec_p_hi x (opOf x) (immOf x) 0 (regA x) (regB x) w h0 h1 (regA_lt x) (regB_lt x) o0 o1 f1 f2 f3 f4 f5 f6 (by omega) (by omega), fun w => ?_⟩
    by_cases hu : 32768 ≤ x / 65536
    · exact dec_r_hin x (opOf x) 0 (x / 65536) (regA x) (regB x) w h0 h1 (regA_lt x) (regB_lt x) o0 o1 rfl f7 f8 rfl (by omega) (by omega) (by omega) (by omega) hu
    · exact dec_r_hip x (opOf x) 0 (x / 65536) (regA x) (regB x) w h0 h1 (regA_lt x) (regB_lt x) o0 o1 rfl f7 f8 rfl (by omega) (by omega) (by omega) (by omega) hu

theorem same_below {P : Program} {f : FuncId} {xs : Array Value} {w : World} {v : Value} (h : Calls P f xs w fun e w' => e = .returned v ∧ w = w') : Calls P f xs w fun e w' => e = .returned v ∧ Below w.heap.size w w' :=
  h.mono fun _ _ ⟨he, hw⟩ => ⟨he, hw ▸ Below.refl _ _⟩

/-- What a register is behind an instruction of numbers. -/
theorem val_both (op a b imm : Int) (k m : Nat) (ha : word a) (hb : word b) (o1 : 1 ≤ op) (o2 : op ≤ 16) :
    ∃ v, word v ∧ (∀ w, Calls Try.prog 20 #[.int .i64 op, .int .u32 a, .int .u32 b, .int .u32 (imm % 4294967296)] w fun e w' => e = .returned (.tuple #[.int .u32 v, .bool true]) ∧ Below w.heap.size w w') ∧
      (∀ w, Calls Try.prog 23 #[.agg #[.int .i64 op, .int .i64 k, .int .i64 m, .int .i64 imm], .int .u32 a, .int .u32 b] w fun e w' => e = .returned (.int .u32 v) ∧ Below w.heap.size w w') := by
  obtain ⟨h0, h1⟩ := ha
  obtain ⟨h2, h3⟩ := hb
  have h31 := and31 b h2 h3
  obtain ⟨n, hn⟩ : ∃ n : Nat, (n : Int) = b % 32 := ⟨(b % 32).toNat, by omega⟩
  have hn1 : n ≤ 31 := by omega
  have hnt : (b % 32).toNat = n := by omega
  have hop : op = 1 ∨ op = 2 ∨ op = 3 ∨ op = 4 ∨ op = 5 ∨ op = 6 ∨ op = 7 ∨ op = 8 ∨ op = 9 ∨ op = 10 ∨ op = 11 ∨ op = 12 ∨ op = 13 ∨ op = 14 ∨ op = 15 ∨ op = 16 := by omega
  rcases hop with rfl | rfl | rfl | rfl | rfl | rfl | rfl | rfl | rfl | rfl | rfl | rfl | rfl | rfl | rfl | rfl
  · exact ⟨(imm % 4294967296), ⟨by omega, by omega⟩, fun w => val_p1 a b _ w h0 h1 h2 h3, fun w => val_r1 a b k m imm w h0 h1 h2 h3⟩
  · exact ⟨(a % 65536 + (imm % 4294967296) * 65536 % 4294967296), ⟨by omega, by omega⟩, fun w => val_p2 a b _ w h0 h1 h2 h3 (by rw [and65535 a h0 h1, u32_or16 _ _ (by omega) (by omega) (by omega) (by omega) (by omega)]), fun w => val_r2 a b k m imm w h0 h1 h2 h3⟩
  · exact ⟨((a + b) % 4294967296), ⟨by omega, by omega⟩, fun w => val_p3 a b _ w h0 h1 h2 h3, fun w => val_r3 a b k m imm w h0 h1 h2 h3⟩
  · exact ⟨((a - b) % 4294967296), ⟨by omega, by omega⟩, fun w => val_p4 a b _ w h0 h1 h2 h3, fun w => val_r4 a b k m imm w h0 h1 h2 h3⟩
  · exact ⟨(bits BinOp.and IntKind.u32 a b), bits_rng _ _ _, fun w => val_p5 a b _ w h0 h1 h2 h3, fun w => val_r5 a b k m imm w h0 h1 h2 h3⟩
  · exact ⟨(bits BinOp.or IntKind.u32 a b), bits_rng _ _ _, fun w => val_p6 a b _ w h0 h1 h2 h3, fun w => val_r6 a b k m imm w h0 h1 h2 h3⟩
  · exact ⟨(bits BinOp.xor IntKind.u32 a b), bits_rng _ _ _, fun w => val_p7 a b _ w h0 h1 h2 h3, fun w => val_r7 a b k m imm w h0 h1 h2 h3⟩
  · have hS : ∀ j, a * 2 ^ j % 4294967296 * 2 % 4294967296 = a * 2 ^ (j + 1) % 4294967296 := fun j => shl_step a j
    have hB : ∀ j : Nat, 0 ≤ a * 2 ^ j % 4294967296 ∧ a * 2 ^ j % 4294967296 ≤ 4294967295 := fun j => ⟨by omega, by omega⟩
    have hz : a * 2 ^ 0 % 4294967296 = a := by simp; omega
    refine ⟨a * 2 ^ n % 4294967296, hB n, fun w => ?_, fun w => ?_⟩
    · have := val_p8 a b (imm % 4294967296) w h0 h1 h2 h3 h31
      rw [hnt] at this
      exact this
    · refine val_r8 (fun j => a * 2 ^ j % 4294967296) a b k m imm n w h0 h1 h2 h3 hn hn1 hB hS hz
  · have hS : ∀ j, a / 2 ^ j / 2 = a / 2 ^ (j + 1) := fun j => shr_step a j
    have hB : ∀ j : Nat, 0 ≤ a / 2 ^ j ∧ a / 2 ^ j ≤ 4294967295 := fun j => shr_rng a j h0 h1
    have hz : a / 2 ^ 0 = a := by simp
    refine ⟨a / 2 ^ n, hB n, fun w => ?_, fun w => ?_⟩
    · have := val_p9 a b (imm % 4294967296) w h0 h1 h2 h3 h31
      rw [hnt] at this
      exact this
    · refine val_r9 (fun j => a / 2 ^ j) a b k m imm n w h0 h1 h2 h3 hn hn1 hB hS hz
  · have hS : ∀ j, wrap32 a / 2 ^ j % 4294967296 / 2 + wrap32 a / 2 ^ j % 4294967296 / 2147483648 * 2147483648 = wrap32 a / 2 ^ (j + 1) % 4294967296 := fun j => sar_step a j
    have hB : ∀ j : Nat, 0 ≤ wrap32 a / 2 ^ j % 4294967296 ∧ wrap32 a / 2 ^ j % 4294967296 ≤ 4294967295 := fun j => ⟨by omega, by omega⟩
    have hz : wrap32 a / 2 ^ 0 % 4294967296 = a := by simp [wrap32]; omega
    refine ⟨wrap32 a / 2 ^ n % 4294967296, hB n, fun w => ?_, fun w => ?_⟩
    · have := val_p10 a b (imm % 4294967296) w h0 h1 h2 h3 h31
      rw [hnt] at this
      exact this
    · refine val_r10 (fun j => wrap32 a / 2 ^ j % 4294967296) a b k m imm n w h0 h1 h2 h3 hn hn1 hB hS hz
  · exact ⟨(a * b % 4294967296), ⟨by omega, by omega⟩, fun w => val_p11 a b _ w h0 h1 h2 h3, fun w => val_r11 a b k m imm w h0 h1 h2 h3⟩
  · by_cases e : b = 0
    · have e1 : dq a b = 4294967295 := by simp [dq, e]
      exact ⟨_, by rw [e1]; exact ⟨by omega, by omega⟩, fun w => val_p12 a b _ w h0 h1 h2 h3, fun w => by rw [e1]; exact val_r12z a b k m imm w h0 h1 h2 h3 (by simp [e])⟩
    · have e1 : dq a b = (a / b) := by simp [dq, e]
      have p1 := Int.ediv_nonneg h0 h2
      have p2 := Int.ediv_le_self b h0
      have p3 := Int.emod_nonneg a e
      have p4 := Int.emod_lt_of_pos a (show 0 < b by omega)
      exact ⟨_, by rw [e1]; exact ⟨by omega, by omega⟩, fun w => val_p12 a b _ w h0 h1 h2 h3, fun w => by rw [e1]; exact val_r12p a b k m imm w h0 h1 h2 h3 (by simp [e]) (by omega)⟩
  · by_cases e : b = 0
    · have e1 : dr a b = a := by simp [dr, e]
      exact ⟨_, by rw [e1]; exact ⟨by omega, by omega⟩, fun w => val_p13 a b _ w h0 h1 h2 h3, fun w => by rw [e1]; exact val_r13z a b k m imm w h0 h1 h2 h3 (by simp [e])⟩
    · have e1 : dr a b = (a % b) := by simp [dr, e]
      have p1 := Int.ediv_nonneg h0 h2
      have p2 := Int.ediv_le_self b h0
      have p3 := Int.emod_nonneg a e
      have p4 := Int.emod_lt_of_pos a (show 0 < b by omega)
      exact ⟨_, by rw [e1]; exact ⟨by omega, by omega⟩, fun w => val_p13 a b _ w h0 h1 h2 h3, fun w => by rw [e1]; exact val_r13p a b k m imm w h0 h1 h2 h3 (by simp [e]) (by omega)⟩
  · by_cases e : wrap32 a < wrap32 b
    · have e1 : bit (decide (wrap32 a < wrap32 b)) = 1 := by simp [bit, e]
      exact ⟨_, by rw [e1]; exact ⟨by omega, by omega⟩, fun w => val_p14 a b _ w h0 h1 h2 h3, fun w => by rw [e1]; exact val_r14t a b k m imm w h0 h1 h2 h3 e⟩
    · have e1 : bit (decide (wrap32 a < wrap32 b)) = 0 := by simp [bit, e]
      exact ⟨_, by rw [e1]; exact ⟨by omega, by omega⟩, fun w => val_p14 a b _ w h0 h1 h2 h3, fun w => by rw [e1]; exact val_r14f a b k m imm w h0 h1 h2 h3 e⟩
  · by_cases e : a < b
    · have e1 : bit (decide (a < b)) = 1 := by simp [bit, e]
      exact ⟨_, by rw [e1]; exact ⟨by omega, by omega⟩, fun w => val_p15 a b _ w h0 h1 h2 h3, fun w => by rw [e1]; exact val_r15t a b k m imm w h0 h1 h2 h3 e⟩
    · have e1 : bit (decide (a < b)) = 0 := by simp [bit, e]
      exact ⟨_, by rw [e1]; exact ⟨by omega, by omega⟩, fun w => val_p15 a b _ w h0 h1 h2 h3, fun w => by rw [e1]; exact val_r15f a b k m imm w h0 h1 h2 h3 e⟩
  · refine ⟨((b + imm) % 4294967296), ⟨by omega, by omega⟩, fun w => ?_, fun w => val_r16 a b k m imm w h0 h1 h2 h3⟩
    have := val_p16 a b (imm % 4294967296) w h0 h1 h2 h3
    rw [show (b + imm % 4294967296) % 4294967296 = (b + imm) % 4294967296 from by omega] at this
    exact this

def FinOk (K size reg : Int) : Prop := (K = 2 ∧ (size = 1 ∨ size = 4) ∧ ∃ k : Nat, k < 16 ∧ reg = k) ∨ K = 3 ∨ K = 4 ∨ (K ≠ 2 ∧ K ≠ 3 ∧ K ≠ 4)
def Few (r : Nat → Int) (pc : Int) (r' : Nat → Int) (pc' K reg x : Int) : Prop :=
  (¬ (1 ≤ opOf x ∧ opOf x ≤ 28) → r' = r ∧ pc' = pc ∧ K = 6) ∧ (∀ i, i ≠ regA x → r' i = r i) ∧ (K = 2 → reg = regA x) ∧ (K = 4 → opOf x = 27)
def actV (K addr size reg value old : Int) : Value := .agg #[.int .i64 K, .int .u32 addr, .int .i64 size, .int .i64 reg, .int .u32 value, .int .u32 old]
theorem upd_word {r : Nat → Int} (hr : ∀ i, word (r i)) (k : Nat) {v : Int} (hv : word v) : ∀ i, word (upd r k v i) := fun i => by unfold upd; split <;> first | exact hv | exact hr i
theorem upd_ne (r : Nat → Int) (k : Nat) (v : Int) (i : Nat) (h : i ≠ k) : upd r k v i = r i := by simp [upd, h]

theorem step_both (r : Nat → Int) (pc x : Int) (hr : ∀ i, word (r i)) (hpc : word pc) (hx : word x) :
    ∃ (r' : Nat → Int) (pc' K addr size reg value old : Int), (∀ i, word (r' i)) ∧ word pc' ∧ FinOk K size reg ∧
      Both 15 16 #[.agg (cpu r pc), .int .u32 x] #[.agg (cpu r pc), .int .u32 x] (.tuple #[.agg (cpu r' pc'), actV K addr size reg value old]) ∧ Few r pc r' pc' K reg x := by
  by_cases hok : 1 ≤ opOf x ∧ opOf x ≤ 28
  · obtain ⟨c1, c2⟩ := hok
    obtain ⟨dp, dr⟩ := dec_ok x hx c1 c2
    have lA := regA_lt x
    have lB := regB_lt x
    obtain ⟨a0, a1⟩ := hr (regA x)
    obtain ⟨b0, b1⟩ := hr (regB x)
    have hno : ∀ {p : Prop}, ¬ (1 ≤ opOf x ∧ opOf x ≤ 28) → p := fun h => absurd ⟨c1, c2⟩ h
    generalize hO : opOf x = op at *
    generalize hA : regA x = k at *
    generalize hB : regB x = m at *
    generalize hI : immOf x = imm at *
    have key : ∀ (r' : Nat → Int) (pc' K addr size reg value old : Int), (∀ i, word (r' i)) → word pc' → FinOk K size reg → (∀ i, i ≠ k → r' i = r i) → (K = 2 → reg = k) → (K = 4 → op = 27) →
        (∀ w, Calls Try.prog 15 #[.agg (cpu r pc), .int .u32 x] w fun e w' => e = .returned (.tuple #[.agg (cpu r' pc'), actV K addr size reg value old]) ∧ Below w.heap.size w w') →
        (∀ w, Calls Try.prog 16 #[.agg (cpu r pc), .int .u32 x] w fun e w' => e = .returned (.tuple #[.agg (cpu r' pc'), actV K addr size reg value old]) ∧ Below w.heap.size w w') →
        ∃ (r' : Nat → Int) (pc' K addr size reg value old : Int), (∀ i, word (r' i)) ∧ word pc' ∧ FinOk K size reg ∧
          Both 15 16 #[.agg (cpu r pc), .int .u32 x] #[.agg (cpu r pc), .int .u32 x] (.tuple #[.agg (cpu r' pc'), actV K addr size reg value old]) ∧ Few r pc r' pc' K reg x :=
      fun r' pc' K addr size reg value old h1 h2 h3 h4 h5 h6 h7 h8 => ⟨r', pc', K, addr, size, reg, value, old, h1, h2, h3, ⟨h7, h8⟩, fun h => hno (by rwa [hO] at h), by rw [hA]; exact h4, by rw [hA]; exact h5, by rw [hO]; exact h6⟩
    clear hno
    have wpc : word ((pc + 4) % 4294967296) := ⟨by omega, by omega⟩
    have wat : word ((r m + imm) % 4294967296) := ⟨by omega, by omega⟩
    have nb : ∀ {j : Int}, op ≠ j → (op == j) = false := fun h => beq_eq_false_iff_ne.2 h
    by_cases hv : op ≤ 16
    · obtain ⟨v, hvw, vp, vr⟩ := val_both op (r k) (r m) imm k m ⟨a0, a1⟩ ⟨b0, b1⟩ c1 hv
      refine key (upd r k v) _ 1 0 0 0 0 0 (upd_word hr k hvw) wpc (.inr (.inr (.inr ⟨by decide, by decide, by decide⟩))) (upd_ne r k v) (fun h => absurd h (by decide)) (fun h => absurd h (by decide)) (fun w => ?_) (fun w => ?_)
      · exact step_p_val r pc x imm op v k m w lA lB dp (fun w => mem_none r pc imm k m op w lA lB (nb (by omega)) (nb (by omega)) (nb (by omega)) (nb (by omega)) (nb (by omega))) vp
      · exact step_r_val r pc x imm op v k m w lA lB dr a0 a1 b0 b1 (nb (by omega)) (nb (by omega)) (nb (by omega)) (nb (by omega)) (nb (by omega)) (nb (by omega)) (nb (by omega)) (nb (by omega)) (nb (by omega)) (nb (by omega)) (nb (by omega)) (nb (by omega)) vr
    · have hop : op = 17 ∨ op = 18 ∨ op = 19 ∨ op = 20 ∨ op = 27 ∨ op = 28 ∨ op = 25 ∨ op = 26 ∨ op = 21 ∨ op = 22 ∨ op = 23 ∨ op = 24 := by omega
      have vnone : 21 ≤ op → op ≠ 27 → ∀ w, Calls Try.prog 20 #[.int .i64 op, .int .u32 (r k), .int .u32 (r m), .int .u32 (imm % 4294967296)] w fun e w' => e = .returned (.tuple #[.int .u32 0, .bool false]) ∧ Below w.heap.size w w' :=
        fun h1 h2 w => val_none op (r k) (r m) _ w a0 a1 b0 b1 (nb (by omega)) (nb (by omega)) (nb (by omega)) (nb (by omega)) (nb (by omega)) (nb (by omega)) (nb (by omega)) (nb (by omega)) (nb (by omega)) (nb (by omega)) (nb (by omega)) (nb (by omega)) (nb (by omega)) (nb (by omega)) (nb (by omega)) (nb (by omega))
      have mnone : 21 ≤ op → op ≠ 27 → ∀ w, Calls Try.prog 19 #[.agg (cpu r pc), .agg #[.int .i64 op, .int .i64 k, .int .i64 m, .int .i64 imm]] w fun e w' => e = .returned (.tuple #[.agg #[.int .i64 0, .int .u32 0, .int .i64 0, .int .i64 0, .int .u32 0, .int .u32 0], .bool false]) ∧ Below w.heap.size w w' :=
        fun h1 h2 w => mem_none r pc imm k m op w lA lB (nb (by omega)) (nb (by omega)) (nb (by omega)) (nb (by omega)) (nb (by omega))
      have b255 := and255 (r k) a0 a1
      rcases hop with rfl | rfl | rfl | rfl | rfl | rfl | rfl | rfl | rfl | rfl | rfl | rfl
      · exact key r pc 2 ((r m + imm) % 4294967296) 4 k 0 0 hr hpc (.inl ⟨rfl, .inr rfl, k, lA, rfl⟩) (fun _ _ => rfl) (fun _ => rfl) (fun h => absurd h (by decide))
          (fun w => step_p_mem r pc x imm _ 2 ((r m + imm) % 4294967296) 4 k 0 0 k m w lA lB dp (fun w => mem_lw r pc imm k m w lA lB))
          (fun w => step_r_lw r pc x imm k m w lA lB dr a0 a1 b0 b1)
      · exact key r pc 3 ((r m + imm) % 4294967296) 4 0 (r k) 0 hr hpc (.inr (.inl rfl)) (fun _ _ => rfl) (fun h => absurd h (by decide)) (fun h => absurd h (by decide))
          (fun w => step_p_mem r pc x imm _ 3 ((r m + imm) % 4294967296) 4 0 (r k) 0 k m w lA lB dp (fun w => mem_sw r pc imm k m w lA lB))
          (fun w => step_r_sw r pc x imm k m w lA lB dr a0 a1 b0 b1)
      · exact key r pc 2 ((r m + imm) % 4294967296) 1 k 0 0 hr hpc (.inl ⟨rfl, .inl rfl, k, lA, rfl⟩) (fun _ _ => rfl) (fun _ => rfl) (fun h => absurd h (by decide))
          (fun w => step_p_mem r pc x imm _ 2 ((r m + imm) % 4294967296) 1 k 0 0 k m w lA lB dp (fun w => mem_lb r pc imm k m w lA lB))
          (fun w => step_r_lb r pc x imm k m w lA lB dr a0 a1 b0 b1)
      · exact key r pc 3 ((r m + imm) % 4294967296) 1 0 (r k % 256) 0 hr hpc (.inr (.inl rfl)) (fun _ _ => rfl) (fun h => absurd h (by decide)) (fun h => absurd h (by decide))
          (fun w => step_p_mem r pc x imm _ 3 ((r m + imm) % 4294967296) 1 0 (r k % 256) 0 k m w lA lB dp (fun w => mem_sb r pc imm k m w lA lB b255))
          (fun w => step_r_sb r pc x imm k m w lA lB dr a0 a1 b0 b1)
      · exact key r pc 4 ((r m + imm) % 4294967296) 4 0 (r k) (r 15) hr hpc (.inr (.inr (.inl rfl))) (fun _ _ => rfl) (fun h => absurd h (by decide)) (fun _ => rfl)
          (fun w => step_p_mem r pc x imm _ 4 ((r m + imm) % 4294967296) 4 0 (r k) (r 15) k m w lA lB dp (fun w => mem_cas r pc imm k m w lA lB))
          (fun w => step_r_cas r pc x imm k m w lA lB dr a0 a1 b0 b1)
      · exact key r ((pc + 4) % 4294967296) 5 0 0 0 0 0 hr wpc (.inr (.inr (.inr ⟨by decide, by decide, by decide⟩))) (fun _ _ => rfl) (fun h => absurd h (by decide)) (fun h => absurd h (by decide))
          (fun w => step_p_sys r pc x imm k m w lA lB dp (mnone (by omega) (by omega)) (vnone (by omega) (by omega)))
          (fun w => step_r_sys r pc x imm k m w lA lB dr a0 a1 b0 b1)
      · exact key (upd r k ((pc + 4) % 4294967296)) ((pc + 4 * (imm % 4294967296)) % 4294967296) 1 0 0 0 0 0 (upd_word hr k wpc) ⟨by omega, by omega⟩ (.inr (.inr (.inr ⟨by decide, by decide, by decide⟩))) (upd_ne r k _) (fun h => absurd h (by decide)) (fun h => absurd h (by decide))
          (fun w => step_p_jal r pc x imm k m w lA lB dp (mnone (by omega) (by omega)) (vnone (by omega) (by omega)))
          (fun w => step_r_jal r pc x imm k m w lA lB dr a0 a1 b0 b1)
      · exact key (upd r k ((pc + 4) % 4294967296)) ((r m + imm) % 4294967296) 1 0 0 0 0 0 (upd_word hr k wpc) wat (.inr (.inr (.inr ⟨by decide, by decide, by decide⟩))) (upd_ne r k _) (fun h => absurd h (by decide)) (fun h => absurd h (by decide))
          (fun w => step_p_jalr r pc x imm k m w lA lB dp (mnone (by omega) (by omega)) (vnone (by omega) (by omega)) b0 b1)
          (fun w => step_r_jalr r pc x imm k m w lA lB dr a0 a1 b0 b1)
      · cases hb : (r k == r m)
        · exact key r ((pc + 4) % 4294967296) 1 0 0 0 0 0 hr ⟨by omega, by omega⟩ (.inr (.inr (.inr ⟨by decide, by decide, by decide⟩))) (fun _ _ => rfl) (fun h => absurd h (by decide)) (fun h => absurd h (by decide))
            (fun w => step_p_nobr r pc x imm _ k m w lA lB dp (mnone (by omega) (by omega)) (vnone (by omega) (by omega)) (nb (by omega)) (nb (by omega)) (nb (by omega)) (fun w => hb ▸ tak_p21 (r k) (r m) w a0 a1 b0 b1))
            (fun w => step_r_nobr21 r pc x imm k m w lA lB dr a0 a1 b0 b1 (fun w => hb ▸ bra_r21 (r k) (r m) w a0 a1 b0 b1))
        · exact key r ((pc + 4 * (imm % 4294967296)) % 4294967296) 1 0 0 0 0 0 hr ⟨by omega, by omega⟩ (.inr (.inr (.inr ⟨by decide, by decide, by decide⟩))) (fun _ _ => rfl) (fun h => absurd h (by decide)) (fun h => absurd h (by decide))
            (fun w => step_p_br r pc x imm _ k m w lA lB dp (mnone (by omega) (by omega)) (vnone (by omega) (by omega)) (nb (by omega)) (nb (by omega)) (nb (by omega)) (fun w => hb ▸ tak_p21 (r k) (r m) w a0 a1 b0 b1))
            (fun w => step_r_br21 r pc x imm k m w lA lB dr a0 a1 b0 b1 (fun w => hb ▸ bra_r21 (r k) (r m) w a0 a1 b0 b1))
      · cases hb : (r k != r m)
        · exact key r ((pc + 4) % 4294967296) 1 0 0 0 0 0 hr ⟨by omega, by omega⟩ (.inr (.inr (.inr ⟨by decide, by decide, by decide⟩))) (fun _ _ => rfl) (fun h => absurd h (by decide)) (fun h => absurd h (by decide))
            (fun w => step_p_nobr r pc x imm _ k m w lA lB dp (mnone (by omega) (by omega)) (vnone (by omega) (by omega)) (nb (by omega)) (nb (by omega)) (nb (by omega)) (fun w => hb ▸ tak_p22 (r k) (r m) w a0 a1 b0 b1))
            (fun w => step_r_nobr22 r pc x imm k m w lA lB dr a0 a1 b0 b1 (fun w => hb ▸ bra_r22 (r k) (r m) w a0 a1 b0 b1))
        · exact key r ((pc + 4 * (imm % 4294967296)) % 4294967296) 1 0 0 0 0 0 hr ⟨by omega, by omega⟩ (.inr (.inr (.inr ⟨by decide, by decide, by decide⟩))) (fun _ _ => rfl) (fun h => absurd h (by decide)) (fun h => absurd h (by decide))
            (fun w => step_p_br r pc x imm _ k m w lA lB dp (mnone (by omega) (by omega)) (vnone (by omega) (by omega)) (nb (by omega)) (nb (by omega)) (nb (by omega)) (fun w => hb ▸ tak_p22 (r k) (r m) w a0 a1 b0 b1))
            (fun w => step_r_br22 r pc x imm k m w lA lB dr a0 a1 b0 b1 (fun w => hb ▸ bra_r22 (r k) (r m) w a0 a1 b0 b1))
      · cases hb : (decide (wrap32 (r k) < wrap32 (r m)))
        · exact key r ((pc + 4) % 4294967296) 1 0 0 0 0 0 hr ⟨by omega, by omega⟩ (.inr (.inr (.inr ⟨by decide, by decide, by decide⟩))) (fun _ _ => rfl) (fun h => absurd h (by decide)) (fun h => absurd h (by decide))
            (fun w => step_p_nobr r pc x imm _ k m w lA lB dp (mnone (by omega) (by omega)) (vnone (by omega) (by omega)) (nb (by omega)) (nb (by omega)) (nb (by omega)) (fun w => hb ▸ tak_p23 (r k) (r m) w a0 a1 b0 b1))
            (fun w => step_r_nobr23 r pc x imm k m w lA lB dr a0 a1 b0 b1 (fun w => hb ▸ bra_r23 (r k) (r m) w a0 a1 b0 b1))
        · exact key r ((pc + 4 * (imm % 4294967296)) % 4294967296) 1 0 0 0 0 0 hr ⟨by omega, by omega⟩ (.inr (.inr (.inr ⟨by decide, by decide, by decide⟩))) (fun _ _ => rfl) (fun h => absurd h (by decide)) (fun h => absurd h (by decide))
            (fun w => step_p_br r pc x imm _ k m w lA lB dp (mnone (by omega) (by omega)) (vnone (by omega) (by omega)) (nb (by omega)) (nb (by omega)) (nb (by omega)) (fun w => hb ▸ tak_p23 (r k) (r m) w a0 a1 b0 b1))
            (fun w => step_r_br23 r pc x imm k m w lA lB dr a0 a1 b0 b1 (fun w => hb ▸ bra_r23 (r k) (r m) w a0 a1 b0 b1))
      · cases hb : (decide (r k < r m))
        · exact key r ((pc + 4) % 4294967296) 1 0 0 0 0 0 hr ⟨by omega, by omega⟩ (.inr (.inr (.inr ⟨by decide, by decide, by decide⟩))) (fun _ _ => rfl) (fun h => absurd h (by decide)) (fun h => absurd h (by decide))
            (fun w => step_p_nobr r pc x imm _ k m w lA lB dp (mnone (by omega) (by omega)) (vnone (by omega) (by omega)) (nb (by omega)) (nb (by omega)) (nb (by omega)) (fun w => hb ▸ tak_p24 (r k) (r m) w a0 a1 b0 b1))
            (fun w => step_r_nobr24 r pc x imm k m w lA lB dr a0 a1 b0 b1 (fun w => hb ▸ bra_r24 (r k) (r m) w a0 a1 b0 b1))
        · exact key r ((pc + 4 * (imm % 4294967296)) % 4294967296) 1 0 0 0 0 0 hr ⟨by omega, by omega⟩ (.inr (.inr (.inr ⟨by decide, by decide, by decide⟩))) (fun _ _ => rfl) (fun h => absurd h (by decide)) (fun h => absurd h (by decide))
            (fun w => step_p_br r pc x imm _ k m w lA lB dp (mnone (by omega) (by omega)) (vnone (by omega) (by omega)) (nb (by omega)) (nb (by omega)) (nb (by omega)) (fun w => hb ▸ tak_p24 (r k) (r m) w a0 a1 b0 b1))
            (fun w => step_r_br24 r pc x imm k m w lA lB dr a0 a1 b0 b1 (fun w => hb ▸ bra_r24 (r k) (r m) w a0 a1 b0 b1))
  · obtain ⟨dp, dr⟩ := dec_bad x hx hok
    exact ⟨r, pc, 6, 0, 0, 0, 0, 0, hr, hpc, .inr (.inr (.inr ⟨by decide, by decide, by decide⟩)), ⟨fun w => step_p_bad r pc x 0 0 0 w (by decide) (by decide) dp, fun w => step_r_bad r pc x 0 0 0 w (by decide) (by decide) dr⟩,
      fun _ => ⟨rfl, rfl, rfl⟩, fun _ _ => rfl, (fun h => absurd h (by decide)), (fun h => absurd h (by decide))⟩

theorem fin_both (r : Nat → Int) (pc K addr size reg value old v : Int) (hr : ∀ i, word (r i)) (hpc : word pc) (hv : word v) (hf : FinOk K size reg) :
    ∃ (r' : Nat → Int) (pc' : Int), (∀ i, word (r' i)) ∧ word pc' ∧ Both 17 18 #[.agg (cpu r pc), actV K addr size reg value old, .int .u32 v] #[.agg (cpu r pc), actV K addr size reg value old, .int .u32 v] (.agg (cpu r' pc')) ∧
      (K = 6 → r' = r ∧ pc' = pc) ∧ (∀ i : Nat, (K = 2 → (i : Int) ≠ reg) → (K = 4 → i ≠ 15) → r' i = r i) := by
  have wpc : word ((pc + 4) % 4294967296) := ⟨by omega, by omega⟩
  obtain ⟨v0, v1⟩ := hv
  rcases hf with ⟨rfl, hs, k, hk, rfl⟩ | rfl | rfl | ⟨n2, n3, n4⟩
  · rcases hs with rfl | rfl
    · exact ⟨upd r k (v % 256), _, upd_word hr k ⟨by omega, by omega⟩, wpc, ⟨fun w => fin_p_load1 r pc addr value old v k w hk (and15i k hk) (and255 v v0 v1), fun w => fin_r_load1 r pc addr value old v k w hk v0⟩, (fun h => absurd h (by decide)), fun i h2 _ => upd_ne r k _ i (fun e => h2 rfl (by rw [e]))⟩
    · exact ⟨upd r k v, _, upd_word hr k ⟨v0, v1⟩, wpc, ⟨fun w => fin_p_load4 r pc addr value old v k w hk (and15i k hk), fun w => fin_r_load4 r pc addr value old v k w hk⟩, (fun h => absurd h (by decide)), fun i h2 _ => upd_ne r k _ i (fun e => h2 rfl (by rw [e]))⟩
  · exact ⟨r, _, hr, wpc, ⟨fun w => fin_p_store r pc addr value old v size reg w, fun w => fin_r_store r pc addr value old v size reg w⟩, (fun h => absurd h (by decide)), fun _ _ _ => rfl⟩
  · exact ⟨upd r 15 v, _, upd_word hr 15 ⟨v0, v1⟩, wpc, ⟨fun w => fin_p_cas r pc addr value old v size reg w, fun w => fin_r_cas r pc addr value old v size reg w⟩, (fun h => absurd h (by decide)), fun i _ h4 => upd_ne r 15 _ i (h4 rfl)⟩
  · exact ⟨r, pc, hr, hpc, ⟨fun w => fin_p_other r pc addr value old v K size reg w (beq_eq_false_iff_ne.2 n2) (beq_eq_false_iff_ne.2 n4) (beq_eq_false_iff_ne.2 n3), fun w => fin_r_other r pc addr value old v K size reg w (beq_eq_false_iff_ne.2 n2) (beq_eq_false_iff_ne.2 n4) (beq_eq_false_iff_ne.2 n3)⟩, fun _ => ⟨rfl, rfl⟩, fun _ _ _ => rfl⟩
end Go.Proofs.Ytjmdikabikgjhaa
