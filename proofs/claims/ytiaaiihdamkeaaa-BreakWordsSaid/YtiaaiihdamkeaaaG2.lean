/- bits.Len64, LeadingZeros64, walked. -/
import Derived.Test.YtiaaiihdamkeaaaG1
namespace Go.Proofs.Ytiaaiihdamkeaaa
open Go Go.Eng Go.RowKit Go.Ar

def tabS : ByteArray := ⟨#[0, 1, 2, 2, 3, 3, 3, 3, 4, 4, 4, 4, 4, 4, 4, 4, 5, 5, 5, 5, 5, 5, 5, 5, 5, 5, 5, 5, 5, 5, 5, 5, 6, 6, 6, 6, 6, 6, 6, 6, 6, 6, 6, 6, 6, 6, 6, 6, 6, 6, 6, 6, 6, 6, 6, 6, 6, 6, 6, 6, 6, 6, 6, 6, 7, 7, 7, 7, 7, 7, 7, 7, 7, 7, 7, 7, 7, 7, 7, 7, 7, 7, 7, 7, 7, 7, 7, 7, 7, 7, 7, 7, 7, 7, 7, 7, 7, 7, 7, 7, 7, 7, 7, 7, 7, 7, 7, 7, 7, 7, 7, 7, 7, 7, 7, 7, 7, 7, 7, 7, 7, 7, 7, 7, 7, 7, 7, 7, 8, 8, 8, 8, 8, 8, 8, 8, 8, 8, 8, 8, 8, 8, 8, 8, 8, 8, 8, 8, 8, 8, 8, 8, 8, 8, 8, 8, 8, 8, 8, 8, 8, 8, 8, 8, 8, 8, 8, 8, 8, 8, 8, 8, 8, 8, 8, 8, 8, 8, 8, 8, 8, 8, 8, 8, 8, 8, 8, 8, 8, 8, 8, 8, 8, 8, 8, 8, 8, 8, 8, 8, 8, 8, 8, 8, 8, 8, 8, 8, 8, 8, 8, 8, 8, 8, 8, 8, 8, 8, 8, 8, 8, 8, 8, 8, 8, 8, 8, 8, 8, 8, 8, 8, 8, 8, 8, 8, 8, 8, 8, 8, 8, 8, 8, 8, 8, 8, 8, 8, 8, 8, 8, 8, 8, 8, 8, 8]⟩
theorem tabS_at : ∀ x : Fin 256, tabS.data[x.val]? = some (UInt8.ofNat (len8 x.val)) := by decide +kernel
theorem tabS_get {x : Nat} (h : x < 256) : tabS[x]? = some (UInt8.ofNat (len8 x)) := by
  have h1 := tabS_at ⟨x, h⟩
  have hs : tabS.size = 256 := by decide +kernel
  rw [ByteArray.getElem?_lt' tabS x (by omega)]
  simp only at h1
  rw [Array.getElem?_eq_getElem (by show x < tabS.data.size; exact (by have : tabS.data.size = 256 := hs; omega))] at h1
  exact h1
theorem len8_u8 {x : Nat} (h : x < 256) : ((UInt8.ofNat (len8 x)).toNat : Int) = (len8 x : Nat) := by
  have := len8_le h
  simp; omega
theorem u8n {x : Nat} (h : x < 256) : IntKind.u8.wrap (x : Int) = (x : Int) := IntWalk.u8_in _ (by omega)
theorem shr16 (x : Nat) : shrV .u64 (x : Int) 16 = ((x / 65536 : Nat) : Int) := shr_n (k := .u64) x (n := 16) (by decide)
theorem shr8 (x : Nat) : shrV .u64 (x : Int) 8 = ((x / 256 : Nat) : Int) := shr_n (k := .u64) x (n := 8) (by decide)
theorem i64n (a b : Nat) (h : a + b < 1000) : IntKind.i64.wrap ((a : Int) + (b : Int)) = ((a + b : Nat) : Int) := i64_id _ (by omega) (by omega)
theorem tabS_size : tabS.size = 256 := by decide +kernel

set_option maxHeartbeats 1000000 in
theorem len64_c (x : Nat) (w : World) (hx : x < W) : Calls Try.prog 40 #[.int .u64 x] w fun e w' => e = .returned (.int .i64 ((len64 x : Nat) : Int)) ∧ Below w.heap.size w w' := by
  refine calls_exec (cf := cf) cfok (fn := Try.f40) Try.func40 rfl [.v (.int .u64 x)] [] (ρ := fun _ => undef) (· < w.heap.size) rfl rfl rfl (by simp [svOkL, svOk]) (memNil fun _ h => h) ?_
  have h32 : (0 : Int) ≤ 32 := by decide
  have h16' : (0 : Int) ≤ 16 := by decide
  have h8' : (0 : Int) ≤ 8 := by decide
  refine And.intro (fun hb => ?_) (fun hb => ?_)
  · have hb : B ≤ x := by (have h0 := of_decide_eq_true hb; (try simp only [B] at *); omega)
    refine And.intro h32 ?_
    rw [shr32]
    refine And.intro (fun hc => ?_) (fun hc => ?_)
    · have hc : 65536 ≤ x / B := by (have h0 := of_decide_eq_true hc; (try simp only [B] at *); omega)
      refine And.intro h16' ?_
      rw [shr16]
      refine And.intro (fun hd => ?_) (fun hd => ?_)
      · have hd : 256 ≤ x / B / 65536 := by (have h0 := of_decide_eq_true hd; (try simp only [B] at *); omega)
        refine And.intro h8' ?_
        rw [shr8]
        have hX : x / B / 65536 / 256 < 256 := by simp only [W, B] at *; omega
        refine ⟨.int .u8 ((UInt8.ofNat (len8 (x / B / 65536 / 256))).toNat : Nat), pure_strIndex ttok (s := tabS) rfl rfl rfl (by rw [u8n hX]; exact Int.natCast_nonneg _) (by rw [u8n hX, tabS_size]; exact Int.ofNat_lt.2 hX) (by rw [u8n hX]; exact tabS_get hX), ?_⟩
        refine fun ρ S w' hi => ⟨ret1 ?_, hi.below⟩
        have hl := len8_le hX
        show IntKind.i64.wrap ((IntKind.i64.wrap ((IntKind.i64.wrap ((32) + 16)) + 8)) + IntKind.i64.wrap (((UInt8.ofNat (len8 (x / B / 65536 / 256))).toNat : Nat) : Int)) = _
        rw [len8_u8 hX, i64_id ((len8 (x / B / 65536 / 256) : Nat) : Int) (by omega) (by omega)]
        have e : len64 x = 32 + (16 + (8 + (len8 (x / B / 65536 / 256)))) := by unfold len64 len32 len16; simp only [if_pos hb, if_pos hc, if_pos hd]
        rw [e]
        have en : (IntKind.i64.wrap ((IntKind.i64.wrap ((32) + 16)) + 8) : Int) = 56 := by decide
        rw [en, i64_id _ (by omega) (by omega)]; omega
      · have hd : ¬ 256 ≤ x / B / 65536 := by (have h0 := of_decide_eq_false hd; (try simp only [B] at *); omega)
        have hX : x / B / 65536 < 256 := by simp only [W, B] at *; omega
        refine ⟨.int .u8 ((UInt8.ofNat (len8 (x / B / 65536))).toNat : Nat), pure_strIndex ttok (s := tabS) rfl rfl rfl (by rw [u8n hX]; exact Int.natCast_nonneg _) (by rw [u8n hX, tabS_size]; exact Int.ofNat_lt.2 hX) (by rw [u8n hX]; exact tabS_get hX), ?_⟩
        refine fun ρ S w' hi => ⟨ret1 ?_, hi.below⟩
        have hl := len8_le hX
        show IntKind.i64.wrap ((IntKind.i64.wrap ((32) + 16)) + IntKind.i64.wrap (((UInt8.ofNat (len8 (x / B / 65536))).toNat : Nat) : Int)) = _
        rw [len8_u8 hX, i64_id ((len8 (x / B / 65536) : Nat) : Int) (by omega) (by omega)]
        have e : len64 x = 32 + (16 + (len8 (x / B / 65536))) := by unfold len64 len32 len16; simp only [if_pos hb, if_pos hc, if_neg hd]
        rw [e]
        have en : (IntKind.i64.wrap ((32) + 16) : Int) = 48 := by decide
        rw [en, i64_id _ (by omega) (by omega)]; omega
    · have hc : ¬ 65536 ≤ x / B := by (have h0 := of_decide_eq_false hc; (try simp only [B] at *); omega)
      refine And.intro (fun hd => ?_) (fun hd => ?_)
      · have hd : 256 ≤ x / B := by (have h0 := of_decide_eq_true hd; (try simp only [B] at *); omega)
        refine And.intro h8' ?_
        rw [shr8]
        have hX : x / B / 256 < 256 := by simp only [W, B] at *; omega
        refine ⟨.int .u8 ((UInt8.ofNat (len8 (x / B / 256))).toNat : Nat), pure_strIndex ttok (s := tabS) rfl rfl rfl (by rw [u8n hX]; exact Int.natCast_nonneg _) (by rw [u8n hX, tabS_size]; exact Int.ofNat_lt.2 hX) (by rw [u8n hX]; exact tabS_get hX), ?_⟩
        refine fun ρ S w' hi => ⟨ret1 ?_, hi.below⟩
        have hl := len8_le hX
        show IntKind.i64.wrap ((IntKind.i64.wrap ((32) + 8)) + IntKind.i64.wrap (((UInt8.ofNat (len8 (x / B / 256))).toNat : Nat) : Int)) = _
        rw [len8_u8 hX, i64_id ((len8 (x / B / 256) : Nat) : Int) (by omega) (by omega)]
        have e : len64 x = 32 + (8 + (len8 (x / B / 256))) := by unfold len64 len32 len16; simp only [if_pos hb, if_neg hc, if_pos hd]
        rw [e]
        have en : (IntKind.i64.wrap ((32) + 8) : Int) = 40 := by decide
        rw [en, i64_id _ (by omega) (by omega)]; omega
      · have hd : ¬ 256 ≤ x / B := by (have h0 := of_decide_eq_false hd; (try simp only [B] at *); omega)
        have hX : x / B < 256 := by simp only [W, B] at *; omega
        refine ⟨.int .u8 ((UInt8.ofNat (len8 (x / B))).toNat : Nat), pure_strIndex ttok (s := tabS) rfl rfl rfl (by rw [u8n hX]; exact Int.natCast_nonneg _) (by rw [u8n hX, tabS_size]; exact Int.ofNat_lt.2 hX) (by rw [u8n hX]; exact tabS_get hX), ?_⟩
        refine fun ρ S w' hi => ⟨ret1 ?_, hi.below⟩
        have hl := len8_le hX
        show IntKind.i64.wrap ((32) + IntKind.i64.wrap (((UInt8.ofNat (len8 (x / B))).toNat : Nat) : Int)) = _
        rw [len8_u8 hX, i64_id ((len8 (x / B) : Nat) : Int) (by omega) (by omega)]
        have e : len64 x = 32 + (len8 (x / B)) := by unfold len64 len32 len16; simp only [if_pos hb, if_neg hc, if_neg hd]
        rw [e]
        have en : (32 : Int) = 32 := by decide
        rw [en, i64_id _ (by omega) (by omega)]; omega
  · have hb : ¬ B ≤ x := by (have h0 := of_decide_eq_false hb; (try simp only [B] at *); omega)
    refine And.intro (fun hc => ?_) (fun hc => ?_)
    · have hc : 65536 ≤ x := by (have h0 := of_decide_eq_true hc; (try simp only [B] at *); omega)
      refine And.intro h16' ?_
      rw [shr16]
      refine And.intro (fun hd => ?_) (fun hd => ?_)
      · have hd : 256 ≤ x / 65536 := by (have h0 := of_decide_eq_true hd; (try simp only [B] at *); omega)
        refine And.intro h8' ?_
        rw [shr8]
        have hX : x / 65536 / 256 < 256 := by simp only [W, B] at *; omega
        refine ⟨.int .u8 ((UInt8.ofNat (len8 (x / 65536 / 256))).toNat : Nat), pure_strIndex ttok (s := tabS) rfl rfl rfl (by rw [u8n hX]; exact Int.natCast_nonneg _) (by rw [u8n hX, tabS_size]; exact Int.ofNat_lt.2 hX) (by rw [u8n hX]; exact tabS_get hX), ?_⟩
        refine fun ρ S w' hi => ⟨ret1 ?_, hi.below⟩
        have hl := len8_le hX
        show IntKind.i64.wrap ((IntKind.i64.wrap ((IntKind.i64.wrap ((0) + 16)) + 8)) + IntKind.i64.wrap (((UInt8.ofNat (len8 (x / 65536 / 256))).toNat : Nat) : Int)) = _
        rw [len8_u8 hX, i64_id ((len8 (x / 65536 / 256) : Nat) : Int) (by omega) (by omega)]
        have e : len64 x = 16 + (8 + (len8 (x / 65536 / 256))) := by unfold len64 len32 len16; simp only [if_neg hb, if_pos hc, if_pos hd]
        rw [e]
        have en : (IntKind.i64.wrap ((IntKind.i64.wrap ((0) + 16)) + 8) : Int) = 24 := by decide
        rw [en, i64_id _ (by omega) (by omega)]; omega
      · have hd : ¬ 256 ≤ x / 65536 := by (have h0 := of_decide_eq_false hd; (try simp only [B] at *); omega)
        have hX : x / 65536 < 256 := by simp only [W, B] at *; omega
        refine ⟨.int .u8 ((UInt8.ofNat (len8 (x / 65536))).toNat : Nat), pure_strIndex ttok (s := tabS) rfl rfl rfl (by rw [u8n hX]; exact Int.natCast_nonneg _) (by rw [u8n hX, tabS_size]; exact Int.ofNat_lt.2 hX) (by rw [u8n hX]; exact tabS_get hX), ?_⟩
        refine fun ρ S w' hi => ⟨ret1 ?_, hi.below⟩
        have hl := len8_le hX
        show IntKind.i64.wrap ((IntKind.i64.wrap ((0) + 16)) + IntKind.i64.wrap (((UInt8.ofNat (len8 (x / 65536))).toNat : Nat) : Int)) = _
        rw [len8_u8 hX, i64_id ((len8 (x / 65536) : Nat) : Int) (by omega) (by omega)]
        have e : len64 x = 16 + (len8 (x / 65536)) := by unfold len64 len32 len16; simp only [if_neg hb, if_pos hc, if_neg hd]
        rw [e]
        have en : (IntKind.i64.wrap ((0) + 16) : Int) = 16 := by decide
        rw [en, i64_id _ (by omega) (by omega)]; omega
    · have hc : ¬ 65536 ≤ x := by (have h0 := of_decide_eq_false hc; (try simp only [B] at *); omega)
      refine And.intro (fun hd => ?_) (fun hd => ?_)
      · have hd : 256 ≤ x := by (have h0 := of_decide_eq_true hd; (try simp only [B] at *); omega)
        refine And.intro h8' ?_
        rw [shr8]
        have hX : x / 256 < 256 := by simp only [W, B] at *; omega
        refine ⟨.int .u8 ((UInt8.ofNat (len8 (x / 256))).toNat : Nat), pure_strIndex ttok (s := tabS) rfl rfl rfl (by rw [u8n hX]; exact Int.natCast_nonneg _) (by rw [u8n hX, tabS_size]; exact Int.ofNat_lt.2 hX) (by rw [u8n hX]; exact tabS_get hX), ?_⟩
        refine fun ρ S w' hi => ⟨ret1 ?_, hi.below⟩
        have hl := len8_le hX
        show IntKind.i64.wrap ((IntKind.i64.wrap ((0) + 8)) + IntKind.i64.wrap (((UInt8.ofNat (len8 (x / 256))).toNat : Nat) : Int)) = _
        rw [len8_u8 hX, i64_id ((len8 (x / 256) : Nat) : Int) (by omega) (by omega)]
        have e : len64 x = 8 + (len8 (x / 256)) := by unfold len64 len32 len16; simp only [if_neg hb, if_neg hc, if_pos hd]
        rw [e]
        have en : (IntKind.i64.wrap ((0) + 8) : Int) = 8 := by decide
        rw [en, i64_id _ (by omega) (by omega)]; omega
      · have hd : ¬ 256 ≤ x := by (have h0 := of_decide_eq_false hd; (try simp only [B] at *); omega)
        have hX : x < 256 := by simp only [W, B] at *; omega
        refine ⟨.int .u8 ((UInt8.ofNat (len8 (x))).toNat : Nat), pure_strIndex ttok (s := tabS) rfl rfl rfl (by rw [u8n hX]; exact Int.natCast_nonneg _) (by rw [u8n hX, tabS_size]; exact Int.ofNat_lt.2 hX) (by rw [u8n hX]; exact tabS_get hX), ?_⟩
        refine fun ρ S w' hi => ⟨ret1 ?_, hi.below⟩
        have hl := len8_le hX
        show IntKind.i64.wrap ((0) + IntKind.i64.wrap (((UInt8.ofNat (len8 (x))).toNat : Nat) : Int)) = _
        rw [len8_u8 hX, i64_id ((len8 (x) : Nat) : Int) (by omega) (by omega)]
        have e : len64 x = len8 (x) := by unfold len64 len32 len16; simp only [if_neg hb, if_neg hc, if_neg hd]
        rw [e]
        have en : (0 : Int) = 0 := by decide
        rw [en, i64_id _ (by omega) (by omega)]; omega

theorem lz64_c (x : Nat) (w : World) (hx : x < W) : Calls Try.prog 39 #[.int .u64 x] w fun e w' => e = .returned (.int .i64 ((64 - len64 x : Nat) : Int)) ∧ Below w.heap.size w w' := by
  refine calls_exec (cf := cf) cfok (fn := Try.f39) Try.func39 rfl [.v (.int .u64 x)] [] (ρ := fun _ => undef) (· < w.heap.size) rfl rfl rfl (by simp [svOkL, svOk]) (memNil fun _ h => h) ?_
  refine Or.inl ⟨_, fun ρ S w' hm => len64_c x w' hx, ?_⟩
  refine fun ρ S w' hi => ⟨ret1 ?_, hi.below⟩
  have := len64_le hx
  show IntKind.i64.wrap (64 - ((len64 x : Nat) : Int)) = _
  rw [i64_id _ (by omega) (by omega)]; omega
end Go.Proofs.Ytiaaiihdamkeaaa
