/- Bits of uint64 as sums. -/
import Derived.Laws.BitsAllLaws
namespace Go.Proofs.Ythkenhbpimddpaa

theorem or16 (i n : Nat) (hi : i < 65536) (hn : n < 65536) : bits .or .u64 (i : Int) ((n : Int) * 65536) = (i : Int) + (n : Int) * 65536 := by
  have h := u64_or_nat i (n * 65536) (by omega) (by omega)
  rw [Int.natCast_mul] at h
  rw [show ((65536 : Nat) : Int) = 65536 from rfl] at h
  rw [h, Nat.or_comm, nat_join 16 (n * 65536) i (by rw [show (2 : Nat) ^ 16 = 65536 from rfl]; omega) (by rw [show (2 : Nat) ^ 16 = 65536 from rfl]; omega)]
  omega
theorem and16 (a : Nat) (ha : a < 18446744073709551616) : bits .and .u64 (a : Int) 65535 = ((a % 65536 : Nat) : Int) := by
  have h := u64_and_nat a 65535 ha (by omega)
  rw [show ((65535 : Nat) : Int) = 65535 from rfl] at h
  rw [h, show (65535 : Nat) = 2 ^ 16 - 1 from rfl, Nat.and_two_pow_sub_one_eq_mod]
end Go.Proofs.Ythkenhbpimddpaa
