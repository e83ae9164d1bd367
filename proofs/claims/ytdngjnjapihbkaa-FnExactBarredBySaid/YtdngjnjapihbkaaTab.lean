/- The table of the types that the walks ask for. Plain theorems, no condition. -/
import Derived.Test.YtdngjnjapihbkaaProg
import Derived.Test.YtdngjnjapihbkaaFwE
namespace Go.Proofs.Ytdngjnjapihbkaa
open Go.Fw
def T : Nat → Option TI
  | 2 => some ⟨1, 8, none, false, false, false, [], (some (.int .i64 0)), (some .i64)⟩
  | 3 => some ⟨1, 8, none, false, false, false, [], (some (.int .i64 0)), (some .i64)⟩
  | 4 => some ⟨1, 1, none, false, false, true, [], (some (.bool false)), none⟩
  | 5 => some ⟨1, 1, none, false, false, false, [], (some (.int .u8 0)), (some .u8)⟩
  | 6 => some ⟨1, 1, none, false, false, false, [], (some (.int .u8 0)), (some .u8)⟩
  | 7 => some ⟨4, 24, none, true, false, false, [(0, 1, false), (1, 1, false), (2, 1, false), (3, 1, false)], (some (.agg #[(.int .i64 0), (.int .i64 0), (.bool false), (.int .u8 0)])), none⟩
  | 8 => some ⟨4, 24, none, true, false, false, [(0, 1, false), (1, 1, false), (2, 1, false), (3, 1, false)], (some (.agg #[(.int .i64 0), (.int .i64 0), (.bool false), (.int .u8 0)])), none⟩
  | 9 => some ⟨1, 16, none, false, true, false, [], (some (.string ⟨#[]⟩)), none⟩
  | 10 => some ⟨1, 16, none, false, true, false, [], (some (.string ⟨#[]⟩)), none⟩
  | 11 => some ⟨1, 16, none, false, true, false, [], (some (.string ⟨#[]⟩)), none⟩
  | 12 => some ⟨1, 8, none, false, false, false, [], (some (.int .u64 0)), (some .u64)⟩
  | 13 => some ⟨2, 24, none, true, false, false, [(0, 1, false), (1, 1, false)], (some (.agg #[(.string ⟨#[]⟩), (.int .u64 0)])), none⟩
  | 14 => some ⟨2, 24, none, true, false, false, [(0, 1, false), (1, 1, false)], (some (.agg #[(.string ⟨#[]⟩), (.int .u64 0)])), none⟩
  | 15 => some ⟨1, 8, none, false, false, false, [], (some (.pointer none)), none⟩
  | 16 => some ⟨1, 8, none, false, false, false, [], (some (.pointer none)), none⟩
  | 17 => some ⟨1, 8, none, false, false, false, [], (some (.pointer none)), none⟩
  | 18 => some ⟨1, 8, none, true, false, false, [(0, 1, false)], (some (.agg #[(.pointer none)])), none⟩
  | 19 => some ⟨1, 8, none, true, false, false, [(0, 1, false)], (some (.agg #[(.pointer none)])), none⟩
  | 21 => some ⟨1, 4, none, false, false, false, [], (some (.int .i32 0)), (some .i32)⟩
  | 22 => some ⟨1, 24, (some 55), false, false, false, [], (some (.slice none 0 0)), none⟩
  | 24 => some ⟨1, 24, (some 58), false, false, false, [], (some (.slice none 0 0)), none⟩
  | 30 => some ⟨1, 24, (some 5), false, false, false, [], (some (.slice none 0 0)), none⟩
  | 32 => some ⟨1, 24, (some 69), false, false, false, [], (some (.slice none 0 0)), none⟩
  | 33 => some ⟨1, 24, (some 2), false, false, false, [], (some (.slice none 0 0)), none⟩
  | 37 => some ⟨3, 40, none, true, false, false, [(0, 1, false), (1, 1, false), (2, 1, false)], (some (.agg #[(.int .i64 0), (.int .i64 0), (.slice none 0 0)])), none⟩
  | 38 => some ⟨3, 40, none, true, false, false, [(0, 1, false), (1, 1, false), (2, 1, false)], (some (.agg #[(.int .i64 0), (.int .i64 0), (.slice none 0 0)])), none⟩
  | 40 => some ⟨1, 24, (some 76), false, false, false, [], (some (.slice none 0 0)), none⟩
  | 52 => some ⟨3, 24, none, true, false, false, [(0, 1, false), (1, 1, false), (2, 1, false)], (some (.agg #[(.int .i64 0), (.int .i64 0), (.int .i64 0)])), none⟩
  | 53 => some ⟨3, 24, none, true, false, false, [(0, 1, false), (1, 1, false), (2, 1, false)], (some (.agg #[(.int .i64 0), (.int .i64 0), (.int .i64 0)])), none⟩
  | 54 => some ⟨8, 72, none, true, false, false, [(0, 1, false), (1, 1, false), (2, 3, true), (5, 3, true)], (some (.agg #[(.int .i64 0), (.string ⟨#[]⟩), (.int .i64 0), (.int .i64 0), (.int .i64 0), (.int .i64 0), (.int .i64 0), (.int .i64 0)])), none⟩
  | 55 => some ⟨8, 72, none, true, false, false, [(0, 1, false), (1, 1, false), (2, 3, true), (5, 3, true)], (some (.agg #[(.int .i64 0), (.string ⟨#[]⟩), (.int .i64 0), (.int .i64 0), (.int .i64 0), (.int .i64 0), (.int .i64 0), (.int .i64 0)])), none⟩
  | 56 => some ⟨3, 24, none, true, false, false, [(0, 1, false), (1, 1, false), (2, 1, false)], (some (.agg #[(.int .i64 0), (.int .i64 0), (.int .i64 0)])), none⟩
  | 57 => some ⟨8, 72, none, true, false, false, [(0, 1, false), (1, 1, false), (2, 3, true), (5, 3, true)], (some (.agg #[(.int .i64 0), (.string ⟨#[]⟩), (.int .i64 0), (.int .i64 0), (.int .i64 0), (.int .i64 0), (.int .i64 0), (.int .i64 0)])), none⟩
  | 58 => some ⟨8, 72, none, true, false, false, [(0, 1, false), (1, 1, false), (2, 3, true), (5, 3, true)], (some (.agg #[(.int .i64 0), (.string ⟨#[]⟩), (.int .i64 0), (.int .i64 0), (.int .i64 0), (.int .i64 0), (.int .i64 0), (.int .i64 0)])), none⟩
  | 65 => some ⟨1, 24, (some 9), false, false, false, [], (some (.slice none 0 0)), none⟩
  | 66 => some ⟨1, 24, (some 67), false, false, false, [], (some (.slice none 0 0)), none⟩
  | 67 => some ⟨1, 24, (some 94), false, false, false, [], (some (.slice none 0 0)), none⟩
  | 68 => some ⟨8, 120, none, true, false, false, [(0, 1, false), (1, 3, true), (4, 1, false), (5, 1, false), (6, 1, false), (7, 1, false)], (some (.agg #[(.string ⟨#[]⟩), (.int .i64 0), (.int .i64 0), (.int .i64 0), (.int .i64 0), (.slice none 0 0), (.slice none 0 0), (.slice none 0 0)])), none⟩
  | 69 => some ⟨8, 120, none, true, false, false, [(0, 1, false), (1, 3, true), (4, 1, false), (5, 1, false), (6, 1, false), (7, 1, false)], (some (.agg #[(.string ⟨#[]⟩), (.int .i64 0), (.int .i64 0), (.int .i64 0), (.int .i64 0), (.slice none 0 0), (.slice none 0 0), (.slice none 0 0)])), none⟩
  | 71 => some ⟨1, 8, none, false, false, false, [], (some .nilFunc), none⟩
  | 73 => some ⟨1, 24, (some 74), false, false, false, [], (some (.slice none 0 0)), none⟩
  | 74 => some ⟨1, 24, (some 124), false, false, false, [], (some (.slice none 0 0)), none⟩
  | 75 => some ⟨8, 120, none, true, false, false, [(0, 1, false), (1, 3, true), (4, 1, false), (5, 1, false), (6, 1, false), (7, 1, false)], (some (.agg #[(.string ⟨#[]⟩), (.int .i64 0), (.int .i64 0), (.int .i64 0), (.int .i64 0), (.slice none 0 0), (.slice none 0 0), (.slice none 0 0)])), none⟩
  | 76 => some ⟨8, 120, none, true, false, false, [(0, 1, false), (1, 3, true), (4, 1, false), (5, 1, false), (6, 1, false), (7, 1, false)], (some (.agg #[(.string ⟨#[]⟩), (.int .i64 0), (.int .i64 0), (.int .i64 0), (.int .i64 0), (.slice none 0 0), (.slice none 0 0), (.slice none 0 0)])), none⟩
  | 85 => some ⟨1, 8, none, false, false, false, [], (some (.pointer none)), none⟩
  | 89 => some ⟨1, 24, (some 112), false, false, false, [], (some (.slice none 0 0)), none⟩
  | 93 => some ⟨7, 64, none, true, false, false, [(0, 1, false), (1, 3, true), (4, 3, true)], (some (.agg #[(.string ⟨#[]⟩), (.int .i64 0), (.int .i64 0), (.int .i64 0), (.int .i64 0), (.int .i64 0), (.int .i64 0)])), none⟩
  | 94 => some ⟨7, 64, none, true, false, false, [(0, 1, false), (1, 3, true), (4, 3, true)], (some (.agg #[(.string ⟨#[]⟩), (.int .i64 0), (.int .i64 0), (.int .i64 0), (.int .i64 0), (.int .i64 0), (.int .i64 0)])), none⟩
  | 111 => some ⟨3, 24, none, true, false, false, [(0, 1, false), (1, 1, false), (2, 1, false)], (some (.agg #[(.int .i64 0), (.int .i64 0), (.int .i64 0)])), none⟩
  | 112 => some ⟨3, 24, none, true, false, false, [(0, 1, false), (1, 1, false), (2, 1, false)], (some (.agg #[(.int .i64 0), (.int .i64 0), (.int .i64 0)])), none⟩
  | 123 => some ⟨7, 64, none, true, false, false, [(0, 1, false), (1, 3, true), (4, 3, true)], (some (.agg #[(.string ⟨#[]⟩), (.int .i64 0), (.int .i64 0), (.int .i64 0), (.int .i64 0), (.int .i64 0), (.int .i64 0)])), none⟩
  | 124 => some ⟨7, 64, none, true, false, false, [(0, 1, false), (1, 3, true), (4, 3, true)], (some (.agg #[(.string ⟨#[]⟩), (.int .i64 0), (.int .i64 0), (.int .i64 0), (.int .i64 0), (.int .i64 0), (.int .i64 0)])), none⟩
  | 129 => some ⟨2, 32, none, true, false, false, [(0, 1, false), (1, 1, false)], (some (.agg #[(.slice none 0 0), (.int .i64 0)])), none⟩
  | 130 => some ⟨2, 32, none, true, false, false, [(0, 1, false), (1, 1, false)], (some (.agg #[(.slice none 0 0), (.int .i64 0)])), none⟩
  | 157 => some ⟨1, 24, (some 3), false, false, false, [], (some (.slice none 0 0)), none⟩
  | 159 => some ⟨4, 40, none, true, false, false, [(0, 1, false), (1, 1, false), (2, 1, false), (3, 1, false)], (some (.agg #[(.pointer none), (.pointer none), (.pointer none), (.string ⟨#[]⟩)])), none⟩
  | 160 => some ⟨4, 40, none, true, false, false, [(0, 1, false), (1, 1, false), (2, 1, false), (3, 1, false)], (some (.agg #[(.pointer none), (.pointer none), (.pointer none), (.string ⟨#[]⟩)])), none⟩
  | 161 => some ⟨0, 0, none, true, false, false, [], (some (.agg #[])), none⟩
  | 162 => some ⟨0, 0, none, true, false, false, [(0, 0, true)], (some (.agg #[])), none⟩
  | 163 => some ⟨0, 0, none, true, false, false, [(0, 0, true)], (some (.agg #[])), none⟩
  | 165 => some ⟨1, 4, none, false, false, false, [], (some (.int .u32 0)), (some .u32)⟩
  | 166 => some ⟨1, 1, none, false, false, false, [], (some (.int .u8 0)), (some .u8)⟩
  | 167 => some ⟨1, 1, none, false, false, false, [], (some (.int .u8 0)), (some .u8)⟩
  | 169 => some ⟨1, 8, none, false, false, false, [], (some (.pointer none)), none⟩
  | 170 => some ⟨1, 4, none, false, false, false, [], (some (.int .i32 0)), (some .i32)⟩
  | 171 => some ⟨1, 4, none, false, false, false, [], (some (.int .i32 0)), (some .i32)⟩
  | _ => none
set_option maxRecDepth 100000 in
theorem T_ok : ∀ t i, T t = some i → tiOf Try.prog t = some i := by
  intro t i h
  unfold T at h
  split at h
  all_goals (cases h <;> kernel_rfl)
end Go.Proofs.Ytdngjnjapihbkaa
