/- The tables of this seat for the evaluator: printed by mkenv.py, a program of mine, out of the translation. -/
import Derived.Lib.ItoaNum
import Derived.Lib.TrailingZeros
import Derived.Test.YthooeghlplhlnaaDoorEv0
import Derived.Test.YthooeghlplhlnaaDoorProg
namespace Go.Proofs.YthooeghlplhlnaaDoor.Ev
open Go

abbrev noS : ByteArray := ⟨#[]⟩
abbrev T_boundsError : Ty := (.st (.pair (.int .i64) (.pair (.int .i64) (.pair .bool (.pair (.int .u8) .unit)))))
abbrev T_errorAddressString : Ty := (.st (.pair .str (.pair (.int .u64) .unit)))
abbrev T_RulesResult : Ty := (.st (.pair (.int .i64) (.pair (.sl (.st (.pair .str (.pair .str .unit)))) .unit)))
abbrev T_TextResult : Ty := (.st (.pair (.int .i64) (.pair .str .unit)))
abbrev T_Rule : Ty := (.st (.pair .str (.pair .str .unit)))
abbrev T_MergeResult : Ty := (.st (.pair (.int .i64) (.pair (.int .i64) (.pair .str .unit))))
abbrev T_EntriesResult : Ty := (.st (.pair (.int .i64) (.pair (.int .i64) (.pair (.sl (.st (.pair .str (.pair (.int .i64) (.pair (.int .i64) (.pair .str .unit)))))) .unit))))
abbrev T_Chunk : Ty := (.st (.pair (.int .i64) (.pair (.sl .str) (.pair (.sl .str) (.pair (.sl .str) .unit)))))
abbrev T_Object : Ty := (.st (.pair .str (.pair (.int .i64) (.pair .str .unit))))
abbrev T_Entry : Ty := (.st (.pair .str (.pair (.int .i64) (.pair (.int .i64) (.pair .str .unit)))))
abbrev T_l1Src : Ty := (.st (.pair (.sl (.int .u8)) (.pair (.int .i64) .unit)))
abbrev T_acceptRange : Ty := (.st (.pair (.int .u8) (.pair (.int .u8) .unit)))
abbrev T_File : Ty := T_Object
def ty2 : TI := ⟨.int .i64, false, 1, 8, .int .i64, [], [.int .i64 0]⟩
def ty3 : TI := ⟨.int .i64, false, 1, 8, .int .i64, [], [.int .i64 0]⟩
def ty4 : TI := ⟨.bool, false, 1, 1, .bool, [], [.bool false]⟩
def ty5 : TI := ⟨.int .u8, false, 1, 1, .int .u8, [], [.int .u8 0]⟩
def ty7 : TI := ⟨.struct, true, 4, 24, (.st (.pair (.int .i64) (.pair (.int .i64) (.pair .bool (.pair (.int .u8) .unit))))), [(0, 1, false), (1, 1, false), (2, 1, false), (3, 1, false)], [.int .i64 0, .int .i64 0, .bool false, .int .u8 0]⟩
def ty9 : TI := ⟨.str, false, 1, 16, .str, [], [.str ⟨#[]⟩]⟩
def ty12 : TI := ⟨.int .u64, false, 1, 8, .int .u64, [], [.int .u64 0]⟩
def ty13 : TI := ⟨.struct, true, 2, 24, (.st (.pair .str (.pair (.int .u64) .unit))), [(0, 1, false), (1, 1, false)], [.str ⟨#[]⟩, .int .u64 0]⟩
def ty15 : TI := ⟨.ptr 253, false, 1, 8, .unit, [], [.raw (.pointer none)]⟩
def ty16 : TI := ⟨.ptr 256, false, 1, 8, .unit, [], [.raw (.pointer none)]⟩
def ty17 : TI := ⟨.ptr 263, false, 1, 8, .unit, [], [.raw (.pointer none)]⟩
def ty18 : TI := ⟨.struct, true, 1, 8, .unit, [(0, 1, false)], [.raw (.pointer none)]⟩
def ty19 : TI := ⟨.struct, true, 1, 8, .unit, [(0, 1, false)], [.raw (.pointer none)]⟩
def ty21 : TI := ⟨.int .i32, false, 1, 4, .int .i32, [], [.int .i32 0]⟩
def ty22 : TI := ⟨.slice 5, false, 1, 24, (.sl (.int .u8)), [], [.emp]⟩
def ty24 : TI := ⟨.slice 36, false, 1, 24, (.sl (.st (.pair .str (.pair .str .unit)))), [], [.emp]⟩
def ty27 : TI := ⟨.struct, true, 2, 32, (.st (.pair (.int .i64) (.pair (.sl (.st (.pair .str (.pair .str .unit)))) .unit))), [(0, 1, false), (1, 1, false)], [.int .i64 0, .emp]⟩
def ty28 : TI := ⟨.struct, true, 2, 32, (.st (.pair (.int .i64) (.pair (.sl (.st (.pair .str (.pair .str .unit)))) .unit))), [(0, 1, false), (1, 1, false)], [.int .i64 0, .emp]⟩
def ty30 : TI := ⟨.struct, true, 2, 24, (.st (.pair (.int .i64) (.pair .str .unit))), [(0, 1, false), (1, 1, false)], [.int .i64 0, .str ⟨#[]⟩]⟩
def ty31 : TI := ⟨.struct, true, 2, 24, (.st (.pair (.int .i64) (.pair .str .unit))), [(0, 1, false), (1, 1, false)], [.int .i64 0, .str ⟨#[]⟩]⟩
def ty35 : TI := ⟨.struct, true, 2, 32, (.st (.pair .str (.pair .str .unit))), [(0, 1, false), (1, 1, false)], [.str ⟨#[]⟩, .str ⟨#[]⟩]⟩
def ty36 : TI := ⟨.struct, true, 2, 32, (.st (.pair .str (.pair .str .unit))), [(0, 1, false), (1, 1, false)], [.str ⟨#[]⟩, .str ⟨#[]⟩]⟩
def ty42 : TI := ⟨.struct, true, 3, 32, (.st (.pair (.int .i64) (.pair (.int .i64) (.pair .str .unit)))), [(0, 1, false), (1, 1, false), (2, 1, false)], [.int .i64 0, .int .i64 0, .str ⟨#[]⟩]⟩
def ty43 : TI := ⟨.struct, true, 3, 32, (.st (.pair (.int .i64) (.pair (.int .i64) (.pair .str .unit)))), [(0, 1, false), (1, 1, false), (2, 1, false)], [.int .i64 0, .int .i64 0, .str ⟨#[]⟩]⟩
def ty45 : TI := ⟨.slice 106, false, 1, 24, (.sl (.st (.pair .str (.pair (.int .i64) (.pair .str .unit))))), [], [.emp]⟩
def ty46 : TI := ⟨.slice 109, false, 1, 24, (.sl (.st (.pair .str (.pair (.int .i64) (.pair .str .unit))))), [], [.emp]⟩
def ty50 : TI := ⟨.slice 111, false, 1, 24, (.sl (.st (.pair .str (.pair (.int .i64) (.pair .str .unit))))), [], [.emp]⟩
def ty52 : TI := ⟨.slice 113, false, 1, 24, (.sl (.st (.pair .str (.pair (.int .i64) (.pair .str .unit))))), [], [.emp]⟩
def ty57 : TI := ⟨.slice 119, false, 1, 24, (.sl (.st (.pair .str (.pair (.int .i64) (.pair (.int .i64) (.pair .str .unit)))))), [], [.emp]⟩
def ty59 : TI := ⟨.slice 122, false, 1, 24, (.sl (.st (.pair .str (.pair (.int .i64) (.pair (.int .i64) (.pair .str .unit)))))), [], [.emp]⟩
def ty60 : TI := ⟨.struct, true, 3, 40, (.st (.pair (.int .i64) (.pair (.int .i64) (.pair (.sl (.st (.pair .str (.pair (.int .i64) (.pair (.int .i64) (.pair .str .unit)))))) .unit)))), [(0, 1, false), (1, 1, false), (2, 1, false)], [.int .i64 0, .int .i64 0, .emp]⟩
def ty61 : TI := ⟨.struct, true, 3, 40, (.st (.pair (.int .i64) (.pair (.int .i64) (.pair (.sl (.st (.pair .str (.pair (.int .i64) (.pair (.int .i64) (.pair .str .unit)))))) .unit)))), [(0, 1, false), (1, 1, false), (2, 1, false)], [.int .i64 0, .int .i64 0, .emp]⟩
def ty69 : TI := ⟨.ptr 127, false, 1, 8, .unit, [], [.raw (.pointer none)]⟩
def ty88 : TI := ⟨.ptr 90, false, 1, 8, .unit, [], [.raw (.pointer none)]⟩
def ty89 : TI := ⟨.struct, true, 2, 32, .unit, [(0, 1, false), (1, 1, false)], [.raw (.pointer none), .emp]⟩
def ty90 : TI := ⟨.struct, true, 2, 32, .unit, [(0, 1, false), (1, 1, false)], [.raw (.pointer none), .raw (.slice none 0 0)]⟩
def ty91 : TI := ⟨.slice 96, false, 1, 24, (.sl (.st (.pair (.int .i64) (.pair (.sl .str) (.pair (.sl .str) (.pair (.sl .str) .unit)))))), [], [.emp]⟩
def ty93 : TI := ⟨.slice 9, false, 1, 24, (.sl .str), [], [.emp]⟩
def ty95 : TI := ⟨.struct, true, 4, 80, (.st (.pair (.int .i64) (.pair (.sl .str) (.pair (.sl .str) (.pair (.sl .str) .unit))))), [(0, 1, false), (1, 1, false), (2, 1, false), (3, 1, false)], [.int .i64 0, .emp, .emp, .emp]⟩
def ty96 : TI := ⟨.struct, true, 4, 80, (.st (.pair (.int .i64) (.pair (.sl .str) (.pair (.sl .str) (.pair (.sl .str) .unit))))), [(0, 1, false), (1, 1, false), (2, 1, false), (3, 1, false)], [.int .i64 0, .emp, .emp, .emp]⟩
def ty99 : TI := ⟨.other, false, 1, 16, .unit, [], [.raw .nilIface]⟩
def ty105 : TI := ⟨.struct, true, 3, 40, (.st (.pair .str (.pair (.int .i64) (.pair .str .unit)))), [(0, 1, false), (1, 1, false), (2, 1, false)], [.str ⟨#[]⟩, .int .i64 0, .str ⟨#[]⟩]⟩
def ty106 : TI := ⟨.struct, true, 3, 40, (.st (.pair .str (.pair (.int .i64) (.pair .str .unit)))), [(0, 1, false), (1, 1, false), (2, 1, false)], [.str ⟨#[]⟩, .int .i64 0, .str ⟨#[]⟩]⟩
def ty108 : TI := ⟨.struct, true, 3, 40, (.st (.pair .str (.pair (.int .i64) (.pair .str .unit)))), [(0, 1, false), (1, 1, false), (2, 1, false)], [.str ⟨#[]⟩, .int .i64 0, .str ⟨#[]⟩]⟩
def ty109 : TI := ⟨.struct, true, 3, 40, (.st (.pair .str (.pair (.int .i64) (.pair .str .unit)))), [(0, 1, false), (1, 1, false), (2, 1, false)], [.str ⟨#[]⟩, .int .i64 0, .str ⟨#[]⟩]⟩
def ty111 : TI := ⟨.struct, true, 3, 40, (.st (.pair .str (.pair (.int .i64) (.pair .str .unit)))), [(0, 1, false), (1, 1, false), (2, 1, false)], [.str ⟨#[]⟩, .int .i64 0, .str ⟨#[]⟩]⟩
def ty113 : TI := ⟨.struct, true, 3, 40, (.st (.pair .str (.pair (.int .i64) (.pair .str .unit)))), [(0, 1, false), (1, 1, false), (2, 1, false)], [.str ⟨#[]⟩, .int .i64 0, .str ⟨#[]⟩]⟩
def ty118 : TI := ⟨.struct, true, 4, 48, (.st (.pair .str (.pair (.int .i64) (.pair (.int .i64) (.pair .str .unit))))), [(0, 1, false), (1, 1, false), (2, 1, false), (3, 1, false)], [.str ⟨#[]⟩, .int .i64 0, .int .i64 0, .str ⟨#[]⟩]⟩
def ty119 : TI := ⟨.struct, true, 4, 48, (.st (.pair .str (.pair (.int .i64) (.pair (.int .i64) (.pair .str .unit))))), [(0, 1, false), (1, 1, false), (2, 1, false), (3, 1, false)], [.str ⟨#[]⟩, .int .i64 0, .int .i64 0, .str ⟨#[]⟩]⟩
def ty122 : TI := ⟨.struct, true, 4, 48, (.st (.pair .str (.pair (.int .i64) (.pair (.int .i64) (.pair .str .unit))))), [(0, 1, false), (1, 1, false), (2, 1, false), (3, 1, false)], [.str ⟨#[]⟩, .int .i64 0, .int .i64 0, .str ⟨#[]⟩]⟩
def ty126 : TI := ⟨.struct, true, 2, 32, (.st (.pair (.sl (.int .u8)) (.pair (.int .i64) .unit))), [(0, 1, false), (1, 1, false)], [.emp, .int .i64 0]⟩
def ty127 : TI := ⟨.struct, true, 2, 32, (.st (.pair (.sl (.int .u8)) (.pair (.int .i64) .unit))), [(0, 1, false), (1, 1, false)], [.emp, .int .i64 0]⟩
def ty137 : TI := ⟨.slice 2, false, 1, 24, (.sl (.int .i64)), [], [.emp]⟩
def ty144 : TI := ⟨.ptr 5, false, 1, 8, .unit, [], [.raw (.pointer none)]⟩
def ty163 : TI := ⟨.int .u64, false, 1, 8, .int .u64, [], [.int .u64 0]⟩
def ty169 : TI := ⟨.other, false, 1, 8, .unit, [], [.raw (.pointer none)]⟩
def ty181 : TI := ⟨.slice 137, false, 1, 24, (.sl (.sl (.int .i64))), [], [.emp]⟩
def ty196 : TI := ⟨.slice 3, false, 1, 24, (.sl (.int .i64)), [], [.emp]⟩
def ty198 : TI := ⟨.int .i64, false, 1, 8, .int .i64, [], [.int .i64 0]⟩
def ty205 : TI := ⟨.int .u32, false, 1, 4, .int .u32, [], [.int .u32 0]⟩
def ty207 : TI := ⟨.int .u64, false, 1, 8, .int .u64, [], [.int .u64 0]⟩
def ty212 : TI := ⟨.array 24 5, true, 24, 24, .unit, [], [.top]⟩
def ty221 : TI := ⟨.array 256 4, true, 256, 256, .unit, [], [.top]⟩
def ty222 : TI := ⟨.array 256 4, true, 256, 256, .unit, [], [.top]⟩
def ty226 : TI := ⟨.ptr 222, false, 1, 8, .unit, [], [.raw (.pointer none)]⟩
def ty227 : TI := ⟨.int .u64, false, 1, 8, .int .u64, [], [.int .u64 0]⟩
def ty231 : TI := ⟨.ptr 3, false, 1, 8, .unit, [], [.raw (.pointer none)]⟩
def ty236 : TI := ⟨.array 20 207, true, 20, 160, .unit, [], [.top]⟩
def ty237 : TI := ⟨.array 65 5, true, 65, 65, .unit, [], [.top]⟩
def ty240 : TI := ⟨.ptr 227, false, 1, 8, .unit, [], [.raw (.pointer none)]⟩
def ty243 : TI := ⟨.array 256 5, true, 256, 256, .unit, [], [.top]⟩
def ty244 : TI := ⟨.struct, true, 2, 2, (.st (.pair (.int .u8) (.pair (.int .u8) .unit))), [(0, 1, false), (1, 1, false)], [.int .u8 0, .int .u8 0]⟩
def ty245 : TI := ⟨.struct, true, 2, 2, (.st (.pair (.int .u8) (.pair (.int .u8) .unit))), [(0, 1, false), (1, 1, false)], [.int .u8 0, .int .u8 0]⟩
def ty246 : TI := ⟨.array 16 245, true, 32, 32, .unit, [], [.int .u8 0, .int .u8 0, .int .u8 0, .int .u8 0, .int .u8 0, .int .u8 0, .int .u8 0, .int .u8 0, .int .u8 0, .int .u8 0, .int .u8 0, .int .u8 0, .int .u8 0, .int .u8 0, .int .u8 0, .int .u8 0, .int .u8 0, .int .u8 0, .int .u8 0, .int .u8 0, .int .u8 0, .int .u8 0, .int .u8 0, .int .u8 0, .int .u8 0, .int .u8 0, .int .u8 0, .int .u8 0, .int .u8 0, .int .u8 0, .int .u8 0, .int .u8 0]⟩
def ty249 : TI := ⟨.array 32 5, true, 32, 32, .unit, [], [.top]⟩
def ty250 : TI := ⟨.array 64 5, true, 64, 64, .unit, [], [.top]⟩
def ty252 : TI := ⟨.struct, true, 4, 40, .unit, [(0, 1, false), (1, 1, false), (2, 1, false), (3, 1, false)], [.raw (.pointer none), .raw (.pointer none), .raw (.pointer none), .str ⟨#[]⟩]⟩
def ty254 : TI := ⟨.other, true, 0, 0, .unit, [], []⟩
def ty255 : TI := ⟨.struct, true, 0, 0, .unit, [(0, 0, true)], []⟩
def ty260 : TI := ⟨.int .i32, false, 1, 4, .int .i32, [], [.int .i32 0]⟩
def ty261 : TI := ⟨.int .i32, false, 1, 4, .int .i32, [], [.int .i32 0]⟩
def ty262 : TI := ⟨.struct, true, 11, 48, .unit, [(0, 1, false), (1, 1, false), (2, 1, false), (3, 1, false), (4, 1, false), (5, 1, false), (6, 1, false), (7, 1, false), (8, 1, false), (9, 1, false), (10, 1, false)], [.int .u64 0, .int .u64 0, .int .u32 0, .int .u8 0, .int .u8 0, .int .u8 0, .int .u8 0, .raw .nilFunc, .raw (.pointer none), .int .i32 0, .int .i32 0]⟩
def ty263 : TI := ⟨.struct, true, 11, 48, .unit, [(0, 1, false), (1, 1, false), (2, 1, false), (3, 1, false), (4, 1, false), (5, 1, false), (6, 1, false), (7, 1, false), (8, 1, false), (9, 1, false), (10, 1, false)], [.int .u64 0, .int .u64 0, .int .u32 0, .int .u8 0, .int .u8 0, .int .u8 0, .int .u8 0, .raw .nilFunc, .raw (.pointer none), .int .i32 0, .int .i32 0]⟩
def tiT : Tr TI := (.node 105 ty105 (.node 35 ty35 (.node 17 ty17 (.node 9 ty9 (.node 4 ty4 (.node 3 ty3 (.node 2 ty2 .leaf .leaf) .leaf) (.node 7 ty7 (.node 5 ty5 .leaf .leaf) .leaf)) (.node 15 ty15 (.node 13 ty13 (.node 12 ty12 .leaf .leaf) .leaf) (.node 16 ty16 .leaf .leaf))) (.node 24 ty24 (.node 21 ty21 (.node 19 ty19 (.node 18 ty18 .leaf .leaf) .leaf) (.node 22 ty22 .leaf .leaf)) (.node 30 ty30 (.node 28 ty28 (.node 27 ty27 .leaf .leaf) .leaf) (.node 31 ty31 .leaf .leaf)))) (.node 61 ty61 (.node 50 ty50 (.node 43 ty43 (.node 42 ty42 (.node 36 ty36 .leaf .leaf) .leaf) (.node 46 ty46 (.node 45 ty45 .leaf .leaf) .leaf)) (.node 59 ty59 (.node 57 ty57 (.node 52 ty52 .leaf .leaf) .leaf) (.node 60 ty60 .leaf .leaf))) (.node 91 ty91 (.node 89 ty89 (.node 88 ty88 (.node 69 ty69 .leaf .leaf) .leaf) (.node 90 ty90 .leaf .leaf)) (.node 96 ty96 (.node 95 ty95 (.node 93 ty93 .leaf .leaf) .leaf) (.node 99 ty99 .leaf .leaf))))) (.node 221 ty221 (.node 137 ty137 (.node 118 ty118 (.node 109 ty109 (.node 108 ty108 (.node 106 ty106 .leaf .leaf) .leaf) (.node 113 ty113 (.node 111 ty111 .leaf .leaf) .leaf)) (.node 126 ty126 (.node 122 ty122 (.node 119 ty119 .leaf .leaf) .leaf) (.node 127 ty127 .leaf .leaf))) (.node 196 ty196 (.node 169 ty169 (.node 163 ty163 (.node 144 ty144 .leaf .leaf) .leaf) (.node 181 ty181 .leaf .leaf)) (.node 207 ty207 (.node 205 ty205 (.node 198 ty198 .leaf .leaf) .leaf) (.node 212 ty212 .leaf .leaf)))) (.node 246 ty246 (.node 237 ty237 (.node 227 ty227 (.node 226 ty226 (.node 222 ty222 .leaf .leaf) .leaf) (.node 236 ty236 (.node 231 ty231 .leaf .leaf) .leaf)) (.node 244 ty244 (.node 243 ty243 (.node 240 ty240 .leaf .leaf) .leaf) (.node 245 ty245 .leaf .leaf))) (.node 255 ty255 (.node 252 ty252 (.node 250 ty250 (.node 249 ty249 .leaf .leaf) .leaf) (.node 254 ty254 .leaf .leaf)) (.node 262 ty262 (.node 261 ty261 (.node 260 ty260 .leaf .leaf) .leaf) (.node 263 ty263 .leaf .leaf))))))
/-- loop.example/g00172/laws.FnRules -/
noncomputable def fi3 : FI := ⟨Go.Proofs.Tryd.f3, [(12, [3, 4, 6, 8, 9], [])], [.bool], false, false, false, []⟩
/-- loop.example/g00172/laws.FnExactNormalText -/
noncomputable def fi4 : FI := ⟨Go.Proofs.Tryd.f4, [], [.bool], false, false, false, []⟩
/-- loop.example/g00172/laws.FnNormals -/
noncomputable def fi5 : FI := ⟨Go.Proofs.Tryd.f5, [], [.bool], false, false, false, []⟩
/-- loop.example/g00172/laws.FnExactHasBlobs -/
noncomputable def fi6 : FI := ⟨Go.Proofs.Tryd.f6, [], [.bool], false, false, false, []⟩
/-- loop.example/g00172/laws.FnExactSwapStages -/
noncomputable def fi7 : FI := ⟨Go.Proofs.Tryd.f7, [], [.bool], false, false, false, []⟩
/-- loop.example/g00172/laws.lwBig -/
noncomputable def fi8 : FI := ⟨Go.Proofs.Tryd.f8, [], [.bool], false, false, false, []⟩
/-- loop.example/g00172/spec.DrawLearnRule -/
noncomputable def fi9 : FI := ⟨Go.Proofs.Tryd.f9, [(9, [5, 6, 7, 8], [])], [(.sl (.st (.pair .str (.pair .str .unit)))), .str, .str], false, false, false, []⟩
/-- loop.example/g00172/impl.LearnRule -/
noncomputable def fi10 : FI := ⟨Go.Proofs.Tryd.f10, [], [(.st (.pair (.int .i64) (.pair (.sl (.st (.pair .str (.pair .str .unit)))) .unit)))], true, false, false, []⟩
/-- loop.example/g00172/spec.LearnRule -/
noncomputable def fi11 : FI := ⟨Go.Proofs.Tryd.f11, [(17, [1, 2, 6, 9, 11], [])], [(.st (.pair (.int .i64) (.pair (.sl (.st (.pair .str (.pair .str .unit)))) .unit)))], false, false, false, []⟩
/-- loop.example/g00172/impl.FindRule -/
noncomputable def fi12 : FI := ⟨Go.Proofs.Tryd.f12, [], [(.st (.pair (.int .i64) (.pair .str .unit)))], false, false, false, []⟩
/-- loop.example/g00172/impl.ForgetRule -/
noncomputable def fi13 : FI := ⟨Go.Proofs.Tryd.f13, [], [(.st (.pair (.int .i64) (.pair (.sl (.st (.pair .str (.pair .str .unit)))) .unit)))], true, false, false, []⟩
/-- loop.example/g00172/impl.RulesFault -/
noncomputable def fi14 : FI := ⟨Go.Proofs.Tryd.f14, [(4, [0, 9, 10, 11], [])], [.int .i64], false, false, false, []⟩
/-- loop.example/g00172/spec.NormalText -/
noncomputable def fi15 : FI := ⟨Go.Proofs.Tryd.f15, [], [(.st (.pair (.int .i64) (.pair .str .unit)))], false, false, false, []⟩
/-- loop.example/g00172/impl.NormalText -/
noncomputable def fi16 : FI := ⟨Go.Proofs.Tryd.f16, [(6, [6, 8, 9, 34, 35, 36], [])], [(.st (.pair (.int .i64) (.pair .str .unit)))], false, false, false, []⟩
/-- loop.example/g00172/laws.eqTextResult -/
noncomputable def fi17 : FI := ⟨Go.Proofs.Tryd.f17, [], [.bool], false, false, false, []⟩
/-- loop.example/g00172/spec.DrawNormalText -/
noncomputable def fi18 : FI := ⟨Go.Proofs.Tryd.f18, [], [.str, .str, .str], false, false, false, []⟩
/-- loop.example/g00172/impl.MergeTexts -/
noncomputable def fi19 : FI := ⟨Go.Proofs.Tryd.f19, [], [(.st (.pair (.int .i64) (.pair (.int .i64) (.pair .str .unit))))], false, false, false, []⟩
/-- loop.example/g00172/laws.szObjectS -/
noncomputable def fi20 : FI := ⟨Go.Proofs.Tryd.f20, [(5, [0, 1, 5], [])], [.int .i64], false, false, false, []⟩
/-- loop.example/g00172/laws.szFileS -/
noncomputable def fi21 : FI := ⟨Go.Proofs.Tryd.f21, [(5, [0, 1, 5], [])], [.int .i64], false, false, false, []⟩
/-- loop.example/g00172/spec.HasBlobs -/
noncomputable def fi22 : FI := ⟨Go.Proofs.Tryd.f22, [], [.bool], false, false, false, []⟩
/-- loop.example/g00172/laws.toObjectS -/
noncomputable def fi23 : FI := ⟨Go.Proofs.Tryd.f23, [(3, [0, 3, 4], [])], [(.sl (.st (.pair .str (.pair (.int .i64) (.pair .str .unit)))))], true, false, false, []⟩
/-- loop.example/g00172/laws.toFileS -/
noncomputable def fi24 : FI := ⟨Go.Proofs.Tryd.f24, [(3, [0, 3, 4], [])], [(.sl (.st (.pair .str (.pair (.int .i64) (.pair .str .unit)))))], true, false, false, []⟩
/-- loop.example/g00172/impl.HasBlobs -/
noncomputable def fi25 : FI := ⟨Go.Proofs.Tryd.f25, [], [.bool], false, false, false, []⟩
/-- loop.example/g00172/laws.eqObjectS -/
noncomputable def fi26 : FI := ⟨Go.Proofs.Tryd.f26, [(4, [0, 1, 5], [])], [.bool], false, false, false, []⟩
/-- loop.example/g00172/laws.eqFileS -/
noncomputable def fi27 : FI := ⟨Go.Proofs.Tryd.f27, [(4, [0, 1, 5], [])], [.bool], false, false, false, []⟩
/-- loop.example/g00172/laws.szEntryS -/
noncomputable def fi28 : FI := ⟨Go.Proofs.Tryd.f28, [(5, [0, 1, 5], [])], [.int .i64], false, false, false, []⟩
/-- loop.example/g00172/spec.SwapStages -/
noncomputable def fi29 : FI := ⟨Go.Proofs.Tryd.f29, [], [(.st (.pair (.int .i64) (.pair (.int .i64) (.pair (.sl (.st (.pair .str (.pair (.int .i64) (.pair (.int .i64) (.pair .str .unit)))))) .unit))))], false, false, false, []⟩
/-- loop.example/g00172/laws.toEntryS -/
noncomputable def fi30 : FI := ⟨Go.Proofs.Tryd.f30, [(3, [0, 3, 4], [])], [(.sl (.st (.pair .str (.pair (.int .i64) (.pair (.int .i64) (.pair .str .unit))))))], true, false, false, []⟩
/-- loop.example/g00172/impl.SwapStages -/
noncomputable def fi31 : FI := ⟨Go.Proofs.Tryd.f31, [], [(.st (.pair (.int .i64) (.pair (.int .i64) (.pair (.sl (.st (.pair .str (.pair (.int .i64) (.pair (.int .i64) (.pair .str .unit)))))) .unit))))], true, false, false, []⟩
/-- loop.example/g00172/laws.eqEntriesResult -/
noncomputable def fi32 : FI := ⟨Go.Proofs.Tryd.f32, [], [.bool], false, false, false, []⟩
/-- loop.example/g00172/laws.eqEntryS -/
noncomputable def fi33 : FI := ⟨Go.Proofs.Tryd.f33, [(4, [0, 1, 5], [])], [.bool], false, false, false, []⟩
/-- loop.example/g00172/laws.markEntryS -/
noncomputable def fi34 : FI := ⟨Go.Proofs.Tryd.f34, [(2, [0, 1, 5], [])], [.int .i64], true, false, true, [(.st (.pair .str (.pair (.int .i64) (.pair (.int .i64) (.pair .str .unit)))))]⟩
/-- loop.example/g00172/laws.markEntriesResult -/
noncomputable def fi35 : FI := ⟨Go.Proofs.Tryd.f35, [], [.int .i64], true, false, true, [(.st (.pair .str (.pair (.int .i64) (.pair (.int .i64) (.pair .str .unit)))))]⟩
/-- loop.example/g00172/laws.heldEntriesResult -/
noncomputable def fi36 : FI := ⟨Go.Proofs.Tryd.f36, [], [.int .i64], false, false, false, []⟩
/-- loop.example/g00172/spec.l1Source -/
noncomputable def fi37 : FI := ⟨Go.Proofs.Tryd.f37, [], [.unit], false, false, false, []⟩
/-- loop.example/g00172/spec.l13Some -/
noncomputable def fi38 : FI := ⟨Go.Proofs.Tryd.f38, [], [.str], false, false, false, []⟩
/-- loop.example/g00172/spec.l13Rules -/
noncomputable def fi39 : FI := ⟨Go.Proofs.Tryd.f39, [(3, [0, 1, 5, 6], [])], [(.sl (.st (.pair .str (.pair .str .unit))))], false, false, false, []⟩
/-- loop.example/g00172/spec.l1Chance -/
noncomputable def fi40 : FI := ⟨Go.Proofs.Tryd.f40, [], [.bool], false, false, false, []⟩
/-- loop.example/g00172/spec.l1Text -/
noncomputable def fi41 : FI := ⟨Go.Proofs.Tryd.f41, [(10, [0, 3, 4], []), (6, [0, 3], [])], [.str], false, false, false, []⟩
/-- loop.example/g00172/impl.learn -/
noncomputable def fi42 : FI := ⟨Go.Proofs.Tryd.f42, [], [(.sl (.st (.pair .str (.pair .str .unit)))), .int .i64], true, false, false, []⟩
/-- loop.example/g00172/spec.RulesFault -/
noncomputable def fi43 : FI := ⟨Go.Proofs.Tryd.f43, [(4, [0, 3], [])], [.int .i64], false, false, false, []⟩
/-- loop.example/g00172/spec.l13Pre -/
noncomputable def fi44 : FI := ⟨Go.Proofs.Tryd.f44, [], [.bool], false, false, false, []⟩
/-- loop.example/g00172/spec.TextFault -/
noncomputable def fi45 : FI := ⟨Go.Proofs.Tryd.f45, [], [.int .i64], false, false, false, []⟩
/-- loop.example/g00172/spec.l13Find -/
noncomputable def fi46 : FI := ⟨Go.Proofs.Tryd.f46, [(2, [0, 1, 5], [])], [.int .i64], false, false, false, []⟩
/-- loop.example/g00172/impl.ruleAt -/
noncomputable def fi47 : FI := ⟨Go.Proofs.Tryd.f47, [], [.int .i64, .bool], false, false, false, []⟩
/-- slices.Delete[[]loop.example/g00172/impl.Rule,loop.example/g00172/impl.Rule] -/
noncomputable def fi48 : FI := ⟨Go.Proofs.Tryd.f48, [], [(.sl (.st (.pair .str (.pair .str .unit))))], true, false, true, []⟩
/-- slices.Clone[[]loop.example/g00172/impl.Rule,loop.example/g00172/impl.Rule] -/
noncomputable def fi49 : FI := ⟨Go.Proofs.Tryd.f49, [], [(.sl (.st (.pair .str (.pair .str .unit))))], true, false, false, []⟩
/-- loop.example/g00172/impl.firstCode -/
noncomputable def fi50 : FI := ⟨Go.Proofs.Tryd.f50, [(2, [5, 6, 7], [])], [.int .i64], false, false, false, []⟩
/-- loop.example/g00172/impl.codeIf -/
noncomputable def fi51 : FI := ⟨Go.Proofs.Tryd.f51, [], [.int .i64], false, false, false, []⟩
/-- loop.example/g00172/impl.isPre -/
noncomputable def fi52 : FI := ⟨Go.Proofs.Tryd.f52, [], [.bool], false, false, false, []⟩
/-- loop.example/g00172/impl.TextFault -/
noncomputable def fi53 : FI := ⟨Go.Proofs.Tryd.f53, [], [.int .i64], false, false, false, []⟩
/-- loop.example/g00172/spec.l4Texts -/
noncomputable def fi54 : FI := ⟨Go.Proofs.Tryd.f54, [], [.int .i64], false, false, false, []⟩
/-- loop.example/g00172/spec.l13Normal -/
noncomputable def fi55 : FI := ⟨Go.Proofs.Tryd.f55, [(5, [8, 9, 10, 11], [])], [.str, .bool], false, false, false, []⟩
/-- loop.example/g00172/impl.chunksOf -/
noncomputable def fi56 : FI := ⟨Go.Proofs.Tryd.f56, [(7, [0, 1, 2, 7, 8, 9, 10, 11, 12, 13, 14], [(9, some 0, .whole T_Chunk)]), (12, [0, 1, 2, 7, 8, 9, 10, 11, 12, 13, 14], [(9, some 0, .whole T_Chunk)])], [(.sl (.st (.pair (.int .i64) (.pair (.sl .str) (.pair (.sl .str) (.pair (.sl .str) .unit))))))], false, false, false, []⟩
/-- loop.example/g00172/impl.linesOf -/
noncomputable def fi57 : FI := ⟨Go.Proofs.Tryd.f57, [], [(.sl .str)], false, false, false, []⟩
/-- (*strings.Builder).WriteString -/
noncomputable def fi59 : FI := ⟨Go.Proofs.Tryd.f59, [], [.int .i64, .unit], false, true, false, []⟩
/-- loop.example/g00172/impl.size -/
noncomputable def fi60 : FI := ⟨Go.Proofs.Tryd.f60, [], [.str], false, false, false, []⟩
/-- (*strings.Builder).String -/
noncomputable def fi61 : FI := ⟨Go.Proofs.Tryd.f61, [], [.str], false, true, false, []⟩
/-- loop.example/g00172/spec.DrawMergeTexts -/
noncomputable def fi62 : FI := ⟨Go.Proofs.Tryd.f62, [], [.str, .str, .str], false, false, false, []⟩
/-- loop.example/g00172/impl.mergeTexts -/
noncomputable def fi63 : FI := ⟨Go.Proofs.Tryd.f63, [(3, [6, 7, 8, 20, 21, 22], [])], [(.st (.pair (.int .i64) (.pair (.int .i64) (.pair .str .unit))))], false, false, false, []⟩
/-- loop.example/g00172/laws.szObject -/
noncomputable def fi64 : FI := ⟨Go.Proofs.Tryd.f64, [], [.int .i64], false, false, false, []⟩
/-- loop.example/g00172/laws.szFile -/
noncomputable def fi65 : FI := ⟨Go.Proofs.Tryd.f65, [], [.int .i64], false, false, false, []⟩
/-- loop.example/g00172/spec.StoreFault -/
noncomputable def fi66 : FI := ⟨Go.Proofs.Tryd.f66, [(4, [0, 3], [])], [.int .i64], false, false, false, []⟩
/-- loop.example/g00172/spec.l11Blobs -/
noncomputable def fi67 : FI := ⟨Go.Proofs.Tryd.f67, [(2, [0, 1, 5], [])], [.bool], false, false, false, []⟩
/-- loop.example/g00172/laws.toObject -/
noncomputable def fi68 : FI := ⟨Go.Proofs.Tryd.f68, [], [(.st (.pair .str (.pair (.int .i64) (.pair .str .unit))))], true, false, false, []⟩
/-- loop.example/g00172/laws.toFile -/
noncomputable def fi69 : FI := ⟨Go.Proofs.Tryd.f69, [], [(.st (.pair .str (.pair (.int .i64) (.pair .str .unit))))], true, false, false, []⟩
/-- loop.example/g00172/impl.StoreFault -/
noncomputable def fi70 : FI := ⟨Go.Proofs.Tryd.f70, [(4, [0, 9, 10, 11], [])], [.int .i64], false, false, false, []⟩
/-- loop.example/g00172/impl.hasBlobs -/
noncomputable def fi71 : FI := ⟨Go.Proofs.Tryd.f71, [(1, [1, 2], [(2, none, .frz (.sl (.st (.pair .str (.pair (.int .i64) (.pair .str .unit))))))])], [.bool], false, false, false, []⟩
/-- loop.example/g00172/laws.eqObject -/
noncomputable def fi72 : FI := ⟨Go.Proofs.Tryd.f72, [], [.bool], false, false, false, []⟩
/-- loop.example/g00172/laws.eqFile -/
noncomputable def fi73 : FI := ⟨Go.Proofs.Tryd.f73, [], [.bool], false, false, false, []⟩
/-- loop.example/g00172/laws.szEntry -/
noncomputable def fi74 : FI := ⟨Go.Proofs.Tryd.f74, [], [.int .i64], false, false, false, []⟩
/-- loop.example/g00172/spec.IndexFault -/
noncomputable def fi75 : FI := ⟨Go.Proofs.Tryd.f75, [(4, [0, 3], [])], [.int .i64], false, false, false, []⟩
/-- loop.example/g00172/spec.l10Swap -/
noncomputable def fi76 : FI := ⟨Go.Proofs.Tryd.f76, [(3, [0, 3, 4], [])], [(.sl (.st (.pair .str (.pair (.int .i64) (.pair (.int .i64) (.pair .str .unit))))))], false, false, false, []⟩
/-- loop.example/g00172/laws.toEntry -/
noncomputable def fi77 : FI := ⟨Go.Proofs.Tryd.f77, [], [(.st (.pair .str (.pair (.int .i64) (.pair (.int .i64) (.pair .str .unit)))))], true, false, false, []⟩
/-- loop.example/g00172/impl.IndexFault -/
noncomputable def fi78 : FI := ⟨Go.Proofs.Tryd.f78, [(4, [0, 8, 9, 10], [])], [.int .i64], false, false, false, []⟩
/-- loop.example/g00172/impl.swapStages -/
noncomputable def fi79 : FI := ⟨Go.Proofs.Tryd.f79, [(3, [3, 8, 9, 10], [])], [(.sl (.st (.pair .str (.pair (.int .i64) (.pair (.int .i64) (.pair .str .unit))))))], true, false, false, []⟩
/-- loop.example/g00172/laws.eqEntry -/
noncomputable def fi80 : FI := ⟨Go.Proofs.Tryd.f80, [], [.bool], false, false, false, []⟩
/-- loop.example/g00172/laws.markText -/
noncomputable def fi81 : FI := ⟨Go.Proofs.Tryd.f81, [(4, [0, 3], [])], [.str], false, false, false, []⟩
/-- loop.example/g00172/laws.heldEntryS -/
noncomputable def fi82 : FI := ⟨Go.Proofs.Tryd.f82, [(2, [0, 1, 5], [])], [.int .i64], false, false, false, []⟩
/-- loop.example/g00172/spec.l4Three -/
noncomputable def fi83 : FI := ⟨Go.Proofs.Tryd.f83, [], [(.sl .str), (.sl .str), (.sl .str)], false, false, false, []⟩
/-- loop.example/g00172/spec.l1Join -/
noncomputable def fi84 : FI := ⟨Go.Proofs.Tryd.f84, [(3, [0, 3, 4], [])], [.str], false, false, false, []⟩
/-- loop.example/g00172/spec.l1Next -/
noncomputable def fi85 : FI := ⟨Go.Proofs.Tryd.f85, [], [.int .i64], false, false, false, []⟩
/-- loop.example/g00172/spec.l1Word -/
noncomputable def fi86 : FI := ⟨Go.Proofs.Tryd.f86, [], [.str], false, false, false, []⟩
/-- loop.example/g00172/spec.l1Lines -/
noncomputable def fi87 : FI := ⟨Go.Proofs.Tryd.f87, [(2, [0, 1, 5], [])], [(.sl .str)], false, false, false, []⟩
/-- loop.example/g00172/spec.l1Split -/
noncomputable def fi89 : FI := ⟨Go.Proofs.Tryd.f89, [(4, [0, 3, 4, 5], [])], [(.sl .str)], false, false, false, []⟩
/-- slices.BinarySearchFunc[[]loop.example/g00172/impl.Rule,loop.example/g00172/impl.Rule,string] -/
noncomputable def fi90 : FI := ⟨Go.Proofs.Tryd.f90, [(3, [0, 1, 2, 8, 9, 10], [])], [.int .i64, .bool], false, false, false, []⟩
/-- loop.example/g00172/impl.ruleAt$1 -/
noncomputable def fi91 : FI := ⟨Go.Proofs.Tryd.f91, [], [.int .i64], false, false, false, []⟩
/-- strings.Compare -/
noncomputable def fi92 : FI := ⟨Go.Proofs.Tryd.f92, [], [.int .i64], false, false, false, []⟩
/-- loop.example/g00172/spec.l4Chunks -/
noncomputable def fi93 : FI := ⟨Go.Proofs.Tryd.f93, [(8, [0, 1, 2, 7, 8, 9, 10, 11, 12, 13], []), (9, [0, 1, 2, 7, 8, 9, 10, 11, 12, 13, 14], []), (16, [0, 1, 2, 7, 8, 9, 10, 11, 12, 13, 15], [])], [(.sl (.st (.pair (.int .i64) (.pair (.sl .str) (.pair (.sl .str) (.pair (.sl .str) .unit))))))], false, false, false, []⟩
/-- loop.example/g00172/spec.l13Number -/
noncomputable def fi94 : FI := ⟨Go.Proofs.Tryd.f94, [], [.str], false, false, false, []⟩
/-- loop.example/g00172/impl.places -/
noncomputable def fi95 : FI := ⟨Go.Proofs.Tryd.f95, [(3, [0, 1, 5, 12, 13], []), (8, [5, 7, 25, 26, 27], [])], [(.sl (.int .i64))], true, false, false, []⟩
/-- loop.example/g00172/impl.chunksOf$1 -/
noncomputable def fi96 : FI := ⟨Go.Proofs.Tryd.f96, [], [], false, true, false, []⟩
/-- loop.example/g00172/impl.chunkOf -/
noncomputable def fi97 : FI := ⟨Go.Proofs.Tryd.f97, [], [(.st (.pair (.int .i64) (.pair (.sl .str) (.pair (.sl .str) (.pair (.sl .str) .unit)))))], false, false, false, []⟩
/-- strings.SplitAfter -/
noncomputable def fi98 : FI := ⟨Go.Proofs.Tryd.f98, [], [(.sl .str)], false, false, false, []⟩
/-- (*strings.Builder).Grow -/
noncomputable def fi99 : FI := ⟨Go.Proofs.Tryd.f99, [], [], false, false, false, []⟩
/-- loop.example/g00172/impl.decimal -/
noncomputable def fi101 : FI := ⟨Go.Proofs.Tryd.f101, [], [.str], false, false, false, []⟩
/-- loop.example/g00172/impl.clashText -/
noncomputable def fi102 : FI := ⟨Go.Proofs.Tryd.f102, [], [.str], false, false, false, []⟩
/-- loop.example/g00172/impl.wholeLines -/
noncomputable def fi103 : FI := ⟨Go.Proofs.Tryd.f103, [(3, [3, 7, 8, 9], [])], [.str], false, false, false, []⟩
/-- loop.example/g00172/spec.IdOf -/
noncomputable def fi104 : FI := ⟨Go.Proofs.Tryd.f104, [], [(.st (.pair (.int .i64) (.pair .str .unit)))], false, false, false, []⟩
/-- loop.example/g00172/spec.l5Get -/
noncomputable def fi105 : FI := ⟨Go.Proofs.Tryd.f105, [], [.str, .bool], false, false, false, []⟩
/-- loop.example/g00172/impl.dataCode -/
noncomputable def fi106 : FI := ⟨Go.Proofs.Tryd.f106, [], [.int .i64], false, false, false, []⟩
/-- loop.example/g00172/impl.idOf -/
noncomputable def fi107 : FI := ⟨Go.Proofs.Tryd.f107, [], [.str], false, false, false, []⟩
/-- slices.ContainsFunc[[]loop.example/g00172/impl.File,loop.example/g00172/impl.File] -/
noncomputable def fi108 : FI := ⟨Go.Proofs.Tryd.f108, [], [.bool], false, false, false, []⟩
/-- loop.example/g00172/impl.hasBlobs$1 -/
noncomputable def fi109 : FI := ⟨Go.Proofs.Tryd.f109, [], [.bool], false, true, false, []⟩
/-- loop.example/g00172/impl.get -/
noncomputable def fi110 : FI := ⟨Go.Proofs.Tryd.f110, [], [.str, .bool], false, false, false, []⟩
/-- loop.example/g00172/spec.PathFault -/
noncomputable def fi111 : FI := ⟨Go.Proofs.Tryd.f111, [(5, [3, 4], [])], [.int .i64], false, false, false, []⟩
/-- loop.example/g00172/spec.l1In -/
noncomputable def fi112 : FI := ⟨Go.Proofs.Tryd.f112, [], [.bool], false, false, false, []⟩
/-- loop.example/g00172/spec.l10Mode -/
noncomputable def fi113 : FI := ⟨Go.Proofs.Tryd.f113, [], [.bool], false, false, false, []⟩
/-- loop.example/g00172/spec.l6Is -/
noncomputable def fi114 : FI := ⟨Go.Proofs.Tryd.f114, [], [.bool], false, false, false, []⟩
/-- loop.example/g00172/spec.l10Behind -/
noncomputable def fi115 : FI := ⟨Go.Proofs.Tryd.f115, [], [.bool], false, false, false, []⟩
/-- loop.example/g00172/spec.l10Put -/
noncomputable def fi116 : FI := ⟨Go.Proofs.Tryd.f116, [(2, [0, 3, 5], [(3, none, .frz T_Entry)])], [(.sl (.st (.pair .str (.pair (.int .i64) (.pair (.int .i64) (.pair .str .unit))))))], true, false, false, []⟩
/-- loop.example/g00172/impl.PathFault -/
noncomputable def fi117 : FI := ⟨Go.Proofs.Tryd.f117, [], [.int .i64], false, false, false, []⟩
/-- loop.example/g00172/impl.within -/
noncomputable def fi118 : FI := ⟨Go.Proofs.Tryd.f118, [], [.bool], false, false, false, []⟩
/-- loop.example/g00172/impl.isFileMode -/
noncomputable def fi119 : FI := ⟨Go.Proofs.Tryd.f119, [], [.bool], false, false, false, []⟩
/-- loop.example/g00172/impl.isIdOf -/
noncomputable def fi120 : FI := ⟨Go.Proofs.Tryd.f120, [], [.bool], false, false, false, []⟩
/-- loop.example/g00172/impl.compareEntries -/
noncomputable def fi121 : FI := ⟨Go.Proofs.Tryd.f121, [], [.int .i64], false, false, false, []⟩
/-- slices.Clone[[]loop.example/g00172/impl.Entry,loop.example/g00172/impl.Entry] -/
noncomputable def fi122 : FI := ⟨Go.Proofs.Tryd.f122, [], [(.sl (.st (.pair .str (.pair (.int .i64) (.pair (.int .i64) (.pair .str .unit))))))], true, false, false, []⟩
/-- loop.example/g00172/spec.l1Near -/
noncomputable def fi124 : FI := ⟨Go.Proofs.Tryd.f124, [(3, [0, 5, 6], []), (18, [5, 9], [])], [(.sl .str)], false, false, false, []⟩
/-- loop.example/g00172/spec.l4Copy -/
noncomputable def fi125 : FI := ⟨Go.Proofs.Tryd.f125, [], [(.sl .str)], false, false, false, []⟩
/-- slices.rotateRight[loop.example/g00172/impl.Rule] -/
noncomputable def fi127 : FI := ⟨Go.Proofs.Tryd.f127, [], [], false, false, false, []⟩
/-- internal/bytealg.CompareString -/
noncomputable def fi128 : FI := ⟨Go.Proofs.Tryd.f128, [], [.int .i64], false, false, false, []⟩
/-- loop.example/g00172/spec.l4Partner -/
noncomputable def fi129 : FI := ⟨Go.Proofs.Tryd.f129, [(3, [0, 1, 5, 6], []), (8, [5, 7, 8, 9], [])], [(.sl (.int .i64))], false, false, false, []⟩
/-- loop.example/g00172/spec.l4Put -/
noncomputable def fi130 : FI := ⟨Go.Proofs.Tryd.f130, [], [(.sl (.st (.pair (.int .i64) (.pair (.sl .str) (.pair (.sl .str) (.pair (.sl .str) .unit))))))], true, false, true, []⟩
/-- loop.example/g00172/spec.l3Digits -/
noncomputable def fi131 : FI := ⟨Go.Proofs.Tryd.f131, [], [.str], false, false, false, []⟩
/-- loop.example/g00172/impl.match -/
noncomputable def fi132 : FI := ⟨Go.Proofs.Tryd.f132, [(4, [0, 1, 6, 7, 8, 9, 10], [])], [(.sl (.int .i64)), (.sl (.int .i64))], false, false, false, []⟩
/-- loop.example/g00172/impl.kindOf -/
noncomputable def fi133 : FI := ⟨Go.Proofs.Tryd.f133, [], [.int .i64], false, false, false, []⟩
/-- slices.Clone[[]string,string] -/
noncomputable def fi134 : FI := ⟨Go.Proofs.Tryd.f134, [], [(.sl .str)], true, false, false, []⟩
/-- strings.genSplit -/
noncomputable def fi135 : FI := ⟨Go.Proofs.Tryd.f135, [(11, [0, 1, 2, 3, 9, 10], [])], [(.sl .str)], false, false, false, []⟩
/-- (*strings.Builder).grow -/
noncomputable def fi136 : FI := ⟨Go.Proofs.Tryd.f136, [], [], false, false, false, []⟩
/-- loop.example/g00172/impl.whole -/
noncomputable def fi139 : FI := ⟨Go.Proofs.Tryd.f139, [], [.str], false, false, false, []⟩
/-- loop.example/g00172/spec.l5Kind -/
noncomputable def fi140 : FI := ⟨Go.Proofs.Tryd.f140, [], [.bool], false, false, false, []⟩
/-- loop.example/g00172/spec.l5Id -/
noncomputable def fi141 : FI := ⟨Go.Proofs.Tryd.f141, [(4, [0, 5, 6, 7], [])], [.str], false, false, false, []⟩
/-- loop.example/g00172/spec.l5Find -/
noncomputable def fi142 : FI := ⟨Go.Proofs.Tryd.f142, [(2, [0, 1, 5], [])], [.int .i64], false, false, false, []⟩
/-- loop.example/g00172/impl.isKind -/
noncomputable def fi143 : FI := ⟨Go.Proofs.Tryd.f143, [], [.bool], false, false, false, []⟩
/-- loop.example/g00172/impl.DigestOf -/
noncomputable def fi144 : FI := ⟨Go.Proofs.Tryd.f144, [(3, [0, 3, 6, 7], [])], [.int .i64], false, false, false, []⟩
/-- slices.IndexFunc[[]loop.example/g00172/impl.File,loop.example/g00172/impl.File] -/
noncomputable def fi146 : FI := ⟨Go.Proofs.Tryd.f146, [(2, [0, 1, 7, 8], [])], [.int .i64], false, false, false, []⟩
/-- loop.example/g00172/impl.find -/
noncomputable def fi147 : FI := ⟨Go.Proofs.Tryd.f147, [], [.int .i64, .bool], false, false, false, []⟩
/-- loop.example/g00172/spec.l7Parts -/
noncomputable def fi148 : FI := ⟨Go.Proofs.Tryd.f148, [(4, [0, 3, 4, 5], [])], [(.sl .str)], false, false, false, []⟩
/-- loop.example/g00172/spec.NameFault -/
noncomputable def fi149 : FI := ⟨Go.Proofs.Tryd.f149, [(4, [0, 3], [])], [.int .i64], false, false, false, []⟩
/-- loop.example/g00172/spec.IsId -/
noncomputable def fi150 : FI := ⟨Go.Proofs.Tryd.f150, [(4, [0, 3], [])], [.bool], false, false, false, []⟩
/-- loop.example/g00172/spec.l5Letter -/
noncomputable def fi151 : FI := ⟨Go.Proofs.Tryd.f151, [], [.str], false, false, false, []⟩
/-- strings.Split -/
noncomputable def fi152 : FI := ⟨Go.Proofs.Tryd.f152, [], [(.sl .str)], false, false, false, []⟩
/-- slices.ContainsFunc[[]string,string] -/
noncomputable def fi153 : FI := ⟨Go.Proofs.Tryd.f153, [], [.bool], false, false, false, []⟩
/-- loop.example/g00172/impl.PathFault$1 -/
noncomputable def fi154 : FI := ⟨Go.Proofs.Tryd.f154, [], [.bool], false, false, false, []⟩
/-- loop.example/g00172/impl.NameFault -/
noncomputable def fi155 : FI := ⟨Go.Proofs.Tryd.f155, [(4, [0, 22, 23], [])], [.int .i64], false, false, false, []⟩
/-- loop.example/g00172/impl.IsId -/
noncomputable def fi156 : FI := ⟨Go.Proofs.Tryd.f156, [], [.bool], false, false, false, []⟩
/-- cmp.Or[int] -/
noncomputable def fi157 : FI := ⟨Go.Proofs.Tryd.f157, [(3, [3, 6, 7, 8], [])], [.int .i64], false, false, false, []⟩
/-- cmp.Compare[int64] -/
noncomputable def fi158 : FI := ⟨Go.Proofs.Tryd.f158, [], [.int .i64], false, false, false, []⟩
/-- slices.pdqsortCmpFunc[loop.example/g00172/impl.Entry] -/
noncomputable def fi159 : FI := ⟨Go.Proofs.Tryd.f159, [(2, [0, 1, 2, 3, 4, 10, 11], [])], [], false, false, false, []⟩
/-- math/bits.Len -/
noncomputable def fi160 : FI := ⟨Go.Proofs.Tryd.f160, [], [.int .i64], false, false, false, []⟩
/-- slices.rotateLeft[loop.example/g00172/impl.Rule] -/
noncomputable def fi161 : FI := ⟨Go.Proofs.Tryd.f161, [], [], false, false, false, []⟩
/-- loop.example/g00172/spec.l2Match -/
noncomputable def fi163 : FI := ⟨Go.Proofs.Tryd.f163, [(6, [0, 1, 6, 7, 8, 9, 10], [])], [(.sl (.int .i64)), (.sl (.int .i64))], false, false, false, []⟩
/-- loop.example/g00172/spec.l4Kind -/
noncomputable def fi164 : FI := ⟨Go.Proofs.Tryd.f164, [], [.int .i64], false, false, false, []⟩
/-- slices.Equal[[]string,string] -/
noncomputable def fi166 : FI := ⟨Go.Proofs.Tryd.f166, [(4, [0, 1, 12, 13], [])], [.bool], false, false, false, []⟩
/-- strings.explode -/
noncomputable def fi167 : FI := ⟨Go.Proofs.Tryd.f167, [(6, [0, 1, 6, 7], [])], [(.sl .str)], false, false, false, []⟩
/-- strings.Count -/
noncomputable def fi168 : FI := ⟨Go.Proofs.Tryd.f168, [(6, [0, 1, 5], [])], [.int .i64], false, false, false, []⟩
/-- strings.Index -/
noncomputable def fi169 : FI := ⟨Go.Proofs.Tryd.f169, [], [.int .i64], false, false, false, []⟩
/-- internal/strconv.FormatInt -/
noncomputable def fi171 : FI := ⟨Go.Proofs.Tryd.f171, [], [.str], false, false, false, []⟩
/-- loop.example/g00172/impl.isWhole -/
noncomputable def fi172 : FI := ⟨Go.Proofs.Tryd.f172, [], [.bool], false, false, false, []⟩
/-- loop.example/g00172/spec.DigestOf -/
noncomputable def fi173 : FI := ⟨Go.Proofs.Tryd.f173, [(3, [0, 3, 4], [])], [.int .i64], false, false, false, []⟩
/-- math/bits.Mul -/
noncomputable def fi174 : FI := ⟨Go.Proofs.Tryd.f174, [], [.int .u64, .int .u64], false, false, false, []⟩
/-- strings.HasPrefix -/
noncomputable def fi175 : FI := ⟨Go.Proofs.Tryd.f175, [], [.bool], false, false, false, []⟩
/-- (*strings.Builder).Len -/
noncomputable def fi176 : FI := ⟨Go.Proofs.Tryd.f176, [], [.int .i64], false, false, false, []⟩
/-- slices.BinarySearchFunc[[]loop.example/g00172/impl.Object,loop.example/g00172/impl.Object,string] -/
noncomputable def fi177 : FI := ⟨Go.Proofs.Tryd.f177, [(3, [0, 1, 2, 8, 9, 10], [])], [.int .i64, .bool], false, false, false, []⟩
/-- loop.example/g00172/impl.find$1 -/
noncomputable def fi178 : FI := ⟨Go.Proofs.Tryd.f178, [], [.int .i64], false, false, false, []⟩
/-- loop.example/g00172/spec.l6NameByte -/
noncomputable def fi179 : FI := ⟨Go.Proofs.Tryd.f179, [], [.bool], false, false, false, []⟩
/-- slices.IndexFunc[[]string,string] -/
noncomputable def fi180 : FI := ⟨Go.Proofs.Tryd.f180, [(2, [0, 1, 7, 8], [])], [.int .i64], false, false, false, []⟩
/-- strings.IndexByte -/
noncomputable def fi181 : FI := ⟨Go.Proofs.Tryd.f181, [], [.int .i64], false, false, false, []⟩
/-- cmp.isNaN[int64] -/
noncomputable def fi183 : FI := ⟨Go.Proofs.Tryd.f183, [], [.bool], false, false, false, []⟩
/-- slices.insertionSortCmpFunc[loop.example/g00172/impl.Entry] -/
noncomputable def fi184 : FI := ⟨Go.Proofs.Tryd.f184, [(1, [0, 1, 2, 3, 8], []), (4, [0, 1, 2, 3, 8, 9], [])], [], false, false, false, []⟩
/-- slices.heapSortCmpFunc[loop.example/g00172/impl.Entry] -/
noncomputable def fi185 : FI := ⟨Go.Proofs.Tryd.f185, [(4, [0, 3, 8, 9, 10, 11], []), (8, [0, 3, 8, 9, 12], [])], [], false, false, false, []⟩
/-- slices.breakPatternsCmpFunc[loop.example/g00172/impl.Entry] -/
noncomputable def fi186 : FI := ⟨Go.Proofs.Tryd.f186, [(5, [0, 1, 8, 9, 10, 11], [])], [], false, false, false, []⟩
/-- slices.choosePivotCmpFunc[loop.example/g00172/impl.Entry] -/
noncomputable def fi187 : FI := ⟨Go.Proofs.Tryd.f187, [], [.int .i64, .int .i64], false, false, false, []⟩
/-- slices.reverseRangeCmpFunc[loop.example/g00172/impl.Entry] -/
noncomputable def fi188 : FI := ⟨Go.Proofs.Tryd.f188, [(2, [0, 8, 9], [])], [], false, false, false, []⟩
/-- slices.partialInsertionSortCmpFunc[loop.example/g00172/impl.Entry] -/
noncomputable def fi189 : FI := ⟨Go.Proofs.Tryd.f189, [(3, [0, 1, 2, 3, 9, 10], []), (5, [0, 1, 2, 3, 9, 10], []), (14, [0, 1, 2, 3, 9, 10, 11], []), (20, [0, 1, 2, 3, 9, 10, 12], [])], [.bool], false, false, false, []⟩
/-- slices.partitionEqualCmpFunc[loop.example/g00172/impl.Entry] -/
noncomputable def fi190 : FI := ⟨Go.Proofs.Tryd.f190, [(3, [0, 1, 4, 11, 12], []), (5, [0, 1, 4, 11, 12], [])], [.int .i64], false, false, false, []⟩
/-- slices.partitionCmpFunc[loop.example/g00172/impl.Entry] -/
noncomputable def fi191 : FI := ⟨Go.Proofs.Tryd.f191, [(3, [0, 1, 4, 12, 13], []), (5, [0, 1, 4, 12, 13], []), (13, [0, 1, 4, 12, 13], []), (15, [0, 1, 4, 12, 13], [])], [.int .i64, .bool], false, false, false, []⟩
/-- math/bits.Len32 -/
noncomputable def fi192 : FI := ⟨Go.Proofs.Tryd.f192, [], [.int .i64], false, false, false, []⟩
/-- math/bits.Len64 -/
noncomputable def fi193 : FI := ⟨Go.Proofs.Tryd.f193, [], [.int .i64], false, false, false, []⟩
/-- slices.Reverse[[]loop.example/g00172/impl.Rule,loop.example/g00172/impl.Rule] -/
noncomputable def fi194 : FI := ⟨Go.Proofs.Tryd.f194, [(1, [0, 2, 3], [])], [], false, false, false, []⟩
/-- loop.example/g00172/spec.SameLines -/
noncomputable def fi196 : FI := ⟨Go.Proofs.Tryd.f196, [(4, [0, 1, 5], [])], [.bool], false, false, false, []⟩
/-- unicode/utf8.RuneCountInString -/
noncomputable def fi197 : FI := ⟨Go.Proofs.Tryd.f197, [(2, [2, 4], [])], [.int .i64], false, false, false, []⟩
/-- unicode/utf8.DecodeRuneInString -/
noncomputable def fi198 : FI := ⟨Go.Proofs.Tryd.f198, [], [.int .i32, .int .i64], false, false, false, []⟩
/-- internal/stringslite.Index -/
noncomputable def fi200 : FI := ⟨Go.Proofs.Tryd.f200, [(15, [0, 1, 5, 6, 7, 8, 9, 10], [])], [.int .i64], false, false, false, []⟩
/-- internal/strconv.small -/
noncomputable def fi201 : FI := ⟨Go.Proofs.Tryd.f201, [], [.str], false, false, false, []⟩
/-- internal/strconv.numDigits -/
noncomputable def fi202 : FI := ⟨Go.Proofs.Tryd.f202, [], [.int .i64], false, false, false, []⟩
/-- internal/strconv.formatBase10 -/
noncomputable def fi203 : FI := ⟨Go.Proofs.Tryd.f203, [(1, [0, 1, 4], [])], [], false, false, false, []⟩
/-- internal/strconv.formatBits -/
noncomputable def fi204 : FI := ⟨Go.Proofs.Tryd.f204, [(18, [0, 1, 3, 4, 10, 11, 12, 13, 17], []), (11, [0, 1, 3, 4, 10, 11, 12, 13, 14, 15, 16], [])], [(.sl (.int .u8)), .str], false, false, false, []⟩
/-- strings.HasSuffix -/
noncomputable def fi205 : FI := ⟨Go.Proofs.Tryd.f205, [], [.bool], false, false, false, []⟩
/-- math/bits.Mul32 -/
noncomputable def fi206 : FI := ⟨Go.Proofs.Tryd.f206, [], [.int .u32, .int .u32], false, false, false, []⟩
/-- math/bits.Mul64 -/
noncomputable def fi207 : FI := ⟨Go.Proofs.Tryd.f207, [], [.int .u64, .int .u64], false, false, false, []⟩
/-- internal/stringslite.HasPrefix -/
noncomputable def fi208 : FI := ⟨Go.Proofs.Tryd.f208, [], [.bool], false, false, false, []⟩
/-- internal/stringslite.IndexByte -/
noncomputable def fi209 : FI := ⟨Go.Proofs.Tryd.f209, [], [.int .i64], false, false, false, []⟩
/-- strings.trimLeftByte -/
noncomputable def fi210 : FI := ⟨Go.Proofs.Tryd.f210, [(1, [0, 1], [])], [.str], false, false, false, []⟩
/-- strings.trimRightByte -/
noncomputable def fi211 : FI := ⟨Go.Proofs.Tryd.f211, [(1, [0, 1], [])], [.str], false, false, false, []⟩
/-- strings.makeASCIISet -/
noncomputable def fi212 : FI := ⟨Go.Proofs.Tryd.f212, [(2, [0, 2, 4], [])], [.unit, .bool], false, false, false, []⟩
/-- strings.trimLeftASCII -/
noncomputable def fi213 : FI := ⟨Go.Proofs.Tryd.f213, [(1, [0, 1], [])], [.str], false, false, false, []⟩
/-- strings.trimRightASCII -/
noncomputable def fi214 : FI := ⟨Go.Proofs.Tryd.f214, [(1, [0, 1], [])], [.str], false, false, false, []⟩
/-- strings.trimLeftUnicode -/
noncomputable def fi215 : FI := ⟨Go.Proofs.Tryd.f215, [(1, [0, 1], [])], [.str], false, false, false, []⟩
/-- strings.trimRightUnicode -/
noncomputable def fi216 : FI := ⟨Go.Proofs.Tryd.f216, [(1, [0, 1], [])], [.str], false, false, false, []⟩
/-- slices.siftDownCmpFunc[loop.example/g00172/impl.Entry] -/
noncomputable def fi217 : FI := ⟨Go.Proofs.Tryd.f217, [(1, [0, 2, 3, 4, 10], [])], [], false, false, false, []⟩
/-- slices.nextPowerOfTwo -/
noncomputable def fi218 : FI := ⟨Go.Proofs.Tryd.f218, [], [.int .u64], false, false, false, []⟩
/-- (*slices.xorshift).Next -/
noncomputable def fi219 : FI := ⟨Go.Proofs.Tryd.f219, [], [.int .u64], false, false, false, []⟩
/-- slices.medianAdjacentCmpFunc[loop.example/g00172/impl.Entry] -/
noncomputable def fi220 : FI := ⟨Go.Proofs.Tryd.f220, [], [.int .i64], false, false, false, []⟩
/-- slices.medianCmpFunc[loop.example/g00172/impl.Entry] -/
noncomputable def fi221 : FI := ⟨Go.Proofs.Tryd.f221, [], [.int .i64], false, false, false, []⟩
/-- loop.example/g00172/spec.l1Max -/
noncomputable def fi222 : FI := ⟨Go.Proofs.Tryd.f222, [], [.int .i64], false, false, false, []⟩
/-- unicode/utf8.decodeRuneInStringSlow -/
noncomputable def fi223 : FI := ⟨Go.Proofs.Tryd.f223, [], [.int .i32, .int .i64], false, false, false, []⟩
/-- internal/bytealg.Cutover -/
noncomputable def fi225 : FI := ⟨Go.Proofs.Tryd.f225, [], [.int .i64], false, false, false, []⟩
/-- internal/bytealg.IndexRabinKarp[string] -/
noncomputable def fi226 : FI := ⟨Go.Proofs.Tryd.f226, [(5, [0, 1, 5, 6, 7, 8, 9], []), (11, [0, 1, 5, 6, 7, 8, 10], [])], [.int .i64], false, false, false, []⟩
/-- internal/strconv.log10Pow2 -/
noncomputable def fi227 : FI := ⟨Go.Proofs.Tryd.f227, [], [.int .i64], false, false, false, []⟩
/-- internal/strconv.bool2[int] -/
noncomputable def fi228 : FI := ⟨Go.Proofs.Tryd.f228, [], [.int .i64], false, false, false, []⟩
/-- internal/strconv.isPowerOfTwo -/
noncomputable def fi229 : FI := ⟨Go.Proofs.Tryd.f229, [], [.bool], false, false, false, []⟩
/-- math/bits.TrailingZeros -/
noncomputable def fi230 : FI := ⟨Go.Proofs.Tryd.f230, [], [.int .i64], false, false, false, []⟩
/-- internal/stringslite.HasSuffix -/
noncomputable def fi231 : FI := ⟨Go.Proofs.Tryd.f231, [], [.bool], false, false, false, []⟩
/-- (*strings.asciiSet).contains -/
noncomputable def fi233 : FI := ⟨Go.Proofs.Tryd.f233, [], [.bool], false, false, false, []⟩
/-- strings.ContainsRune -/
noncomputable def fi234 : FI := ⟨Go.Proofs.Tryd.f234, [], [.bool], false, false, false, []⟩
/-- unicode/utf8.DecodeLastRuneInString -/
noncomputable def fi235 : FI := ⟨Go.Proofs.Tryd.f235, [(10, [0, 4, 5, 6], [])], [.int .i32, .int .i64], false, false, false, []⟩
/-- slices.order2CmpFunc[loop.example/g00172/impl.Entry] -/
noncomputable def fi236 : FI := ⟨Go.Proofs.Tryd.f236, [], [.int .i64, .int .i64], false, false, false, []⟩
/-- internal/bytealg.hashStr[string] -/
noncomputable def fi237 : FI := ⟨Go.Proofs.Tryd.f237, [(3, [0, 4, 5], []), (8, [4, 6, 7, 8], [])], [.int .u32, .int .u32], false, false, false, []⟩
/-- math/bits.TrailingZeros32 -/
noncomputable def fi238 : FI := ⟨Go.Proofs.Tryd.f238, [], [.int .i64], false, false, false, []⟩
/-- math/bits.TrailingZeros64 -/
noncomputable def fi239 : FI := ⟨Go.Proofs.Tryd.f239, [], [.int .i64], false, false, false, []⟩
/-- strings.IndexRune -/
noncomputable def fi240 : FI := ⟨Go.Proofs.Tryd.f240, [(5, [0, 7, 8, 9], []), (12, [0, 7, 8, 9, 12], []), (25, [0, 7, 8, 9, 14, 15], []), (29, [0, 7, 8, 9, 14, 15, 16], []), (38, [175], [])], [.int .i64], false, false, false, []⟩
/-- unicode/utf8.RuneStart -/
noncomputable def fi241 : FI := ⟨Go.Proofs.Tryd.f241, [], [.bool], false, false, false, []⟩
/-- unicode/utf8.ValidRune -/
noncomputable def fi242 : FI := ⟨Go.Proofs.Tryd.f242, [], [.bool], false, false, false, []⟩
/-- gosem.cut.vars -/
noncomputable def fi267 : FI := ⟨Go.Proofs.Tryd.f267, [], [], false, false, false, []⟩
noncomputable def fiT : Tr FI := (.node 118 fi118 (.node 60 fi60 (.node 31 fi31 (.node 17 fi17 (.node 10 fi10 (.node 6 fi6 (.node 4 fi4 (.node 3 fi3 .leaf .leaf) (.node 5 fi5 .leaf .leaf)) (.node 8 fi8 (.node 7 fi7 .leaf .leaf) (.node 9 fi9 .leaf .leaf))) (.node 14 fi14 (.node 12 fi12 (.node 11 fi11 .leaf .leaf) (.node 13 fi13 .leaf .leaf)) (.node 16 fi16 (.node 15 fi15 .leaf .leaf) .leaf))) (.node 24 fi24 (.node 21 fi21 (.node 19 fi19 (.node 18 fi18 .leaf .leaf) (.node 20 fi20 .leaf .leaf)) (.node 23 fi23 (.node 22 fi22 .leaf .leaf) .leaf)) (.node 28 fi28 (.node 26 fi26 (.node 25 fi25 .leaf .leaf) (.node 27 fi27 .leaf .leaf)) (.node 30 fi30 (.node 29 fi29 .leaf .leaf) .leaf)))) (.node 45 fi45 (.node 38 fi38 (.node 35 fi35 (.node 33 fi33 (.node 32 fi32 .leaf .leaf) (.node 34 fi34 .leaf .leaf)) (.node 37 fi37 (.node 36 fi36 .leaf .leaf) .leaf)) (.node 42 fi42 (.node 40 fi40 (.node 39 fi39 .leaf .leaf) (.node 41 fi41 .leaf .leaf)) (.node 44 fi44 (.node 43 fi43 .leaf .leaf) .leaf))) (.node 52 fi52 (.node 49 fi49 (.node 47 fi47 (.node 46 fi46 .leaf .leaf) (.node 48 fi48 .leaf .leaf)) (.node 51 fi51 (.node 50 fi50 .leaf .leaf) .leaf)) (.node 56 fi56 (.node 54 fi54 (.node 53 fi53 .leaf .leaf) (.node 55 fi55 .leaf .leaf)) (.node 59 fi59 (.node 57 fi57 .leaf .leaf) .leaf))))) (.node 89 fi89 (.node 74 fi74 (.node 67 fi67 (.node 64 fi64 (.node 62 fi62 (.node 61 fi61 .leaf .leaf) (.node 63 fi63 .leaf .leaf)) (.node 66 fi66 (.node 65 fi65 .leaf .leaf) .leaf)) (.node 71 fi71 (.node 69 fi69 (.node 68 fi68 .leaf .leaf) (.node 70 fi70 .leaf .leaf)) (.node 73 fi73 (.node 72 fi72 .leaf .leaf) .leaf))) (.node 81 fi81 (.node 78 fi78 (.node 76 fi76 (.node 75 fi75 .leaf .leaf) (.node 77 fi77 .leaf .leaf)) (.node 80 fi80 (.node 79 fi79 .leaf .leaf) .leaf)) (.node 85 fi85 (.node 83 fi83 (.node 82 fi82 .leaf .leaf) (.node 84 fi84 .leaf .leaf)) (.node 87 fi87 (.node 86 fi86 .leaf .leaf) .leaf)))) (.node 104 fi104 (.node 96 fi96 (.node 93 fi93 (.node 91 fi91 (.node 90 fi90 .leaf .leaf) (.node 92 fi92 .leaf .leaf)) (.node 95 fi95 (.node 94 fi94 .leaf .leaf) .leaf)) (.node 101 fi101 (.node 98 fi98 (.node 97 fi97 .leaf .leaf) (.node 99 fi99 .leaf .leaf)) (.node 103 fi103 (.node 102 fi102 .leaf .leaf) .leaf))) (.node 111 fi111 (.node 108 fi108 (.node 106 fi106 (.node 105 fi105 .leaf .leaf) (.node 107 fi107 .leaf .leaf)) (.node 110 fi110 (.node 109 fi109 .leaf .leaf) .leaf)) (.node 115 fi115 (.node 113 fi113 (.node 112 fi112 .leaf .leaf) (.node 114 fi114 .leaf .leaf)) (.node 117 fi117 (.node 116 fi116 .leaf .leaf) .leaf)))))) (.node 184 fi184 (.node 152 fi152 (.node 135 fi135 (.node 128 fi128 (.node 122 fi122 (.node 120 fi120 (.node 119 fi119 .leaf .leaf) (.node 121 fi121 .leaf .leaf)) (.node 125 fi125 (.node 124 fi124 .leaf .leaf) (.node 127 fi127 .leaf .leaf))) (.node 132 fi132 (.node 130 fi130 (.node 129 fi129 .leaf .leaf) (.node 131 fi131 .leaf .leaf)) (.node 134 fi134 (.node 133 fi133 .leaf .leaf) .leaf))) (.node 144 fi144 (.node 141 fi141 (.node 139 fi139 (.node 136 fi136 .leaf .leaf) (.node 140 fi140 .leaf .leaf)) (.node 143 fi143 (.node 142 fi142 .leaf .leaf) .leaf)) (.node 149 fi149 (.node 147 fi147 (.node 146 fi146 .leaf .leaf) (.node 148 fi148 .leaf .leaf)) (.node 151 fi151 (.node 150 fi150 .leaf .leaf) .leaf)))) (.node 168 fi168 (.node 159 fi159 (.node 156 fi156 (.node 154 fi154 (.node 153 fi153 .leaf .leaf) (.node 155 fi155 .leaf .leaf)) (.node 158 fi158 (.node 157 fi157 .leaf .leaf) .leaf)) (.node 164 fi164 (.node 161 fi161 (.node 160 fi160 .leaf .leaf) (.node 163 fi163 .leaf .leaf)) (.node 167 fi167 (.node 166 fi166 .leaf .leaf) .leaf))) (.node 176 fi176 (.node 173 fi173 (.node 171 fi171 (.node 169 fi169 .leaf .leaf) (.node 172 fi172 .leaf .leaf)) (.node 175 fi175 (.node 174 fi174 .leaf .leaf) .leaf)) (.node 180 fi180 (.node 178 fi178 (.node 177 fi177 .leaf .leaf) (.node 179 fi179 .leaf .leaf)) (.node 183 fi183 (.node 181 fi181 .leaf .leaf) .leaf))))) (.node 214 fi214 (.node 200 fi200 (.node 191 fi191 (.node 188 fi188 (.node 186 fi186 (.node 185 fi185 .leaf .leaf) (.node 187 fi187 .leaf .leaf)) (.node 190 fi190 (.node 189 fi189 .leaf .leaf) .leaf)) (.node 196 fi196 (.node 193 fi193 (.node 192 fi192 .leaf .leaf) (.node 194 fi194 .leaf .leaf)) (.node 198 fi198 (.node 197 fi197 .leaf .leaf) .leaf))) (.node 207 fi207 (.node 204 fi204 (.node 202 fi202 (.node 201 fi201 .leaf .leaf) (.node 203 fi203 .leaf .leaf)) (.node 206 fi206 (.node 205 fi205 .leaf .leaf) .leaf)) (.node 211 fi211 (.node 209 fi209 (.node 208 fi208 .leaf .leaf) (.node 210 fi210 .leaf .leaf)) (.node 213 fi213 (.node 212 fi212 .leaf .leaf) .leaf)))) (.node 229 fi229 (.node 221 fi221 (.node 218 fi218 (.node 216 fi216 (.node 215 fi215 .leaf .leaf) (.node 217 fi217 .leaf .leaf)) (.node 220 fi220 (.node 219 fi219 .leaf .leaf) .leaf)) (.node 226 fi226 (.node 223 fi223 (.node 222 fi222 .leaf .leaf) (.node 225 fi225 .leaf .leaf)) (.node 228 fi228 (.node 227 fi227 .leaf .leaf) .leaf))) (.node 237 fi237 (.node 234 fi234 (.node 231 fi231 (.node 230 fi230 .leaf .leaf) (.node 233 fi233 .leaf .leaf)) (.node 236 fi236 (.node 235 fi235 .leaf .leaf) .leaf)) (.node 241 fi241 (.node 239 fi239 (.node 238 fi238 .leaf .leaf) (.node 240 fi240 .leaf .leaf)) (.node 267 fi267 (.node 242 fi242 .leaf .leaf) .leaf)))))))
def orI (a b : Int) : Int := if a ≠ 0 then a else b
/-- the order of entries -/
def cf_Entry (x y : T_Entry.den) : Int := orI (Go.Lib.compareBytes x.1.data.toList y.1.data.toList) (if x.2.1 < y.2.1 then -1 else if y.2.1 < x.2.1 then 1 else 0)
/-- the tables that the contracts want -/
noncomputable def tabs (k : Nat) : Option (Array Value) := match Nat.beq k 1 with
  | true => some (Go.Lib.pow10Tab.map fun z => Value.int .u64 z).toArray
  | false => match Nat.beq k 5 with
  | true => some ((Go.Lib.deBruijn64tab.map fun z : Nat => (z : Int)).map fun z => Value.int .u8 z).toArray
  | false => none
/-- xtOf, for the tables -/
def xtF (l : List (Nat × XT)) (f : Nat) : Option XT := match l with
  | [] => none
  | (k, x) :: r => match Nat.beq k f with
    | true => some x
    | false => xtF r f
def xtL : List (Nat × XT) := [(162, .compare), (199, .count), (232, .indexByte), (88, .insert (.st (.pair .str (.pair .str .unit)))), (123, .sort T_Entry 121 cf_Entry), (58, .join), (165, .table), (195, .table), (100, .chk 90), (138, .lib .fmtInt), (145, .lib .rep), (182, .lib .trim)]
noncomputable def env : Env := { fi := fiT.find, xt := xtF xtL, ti := fun t => (tiT.find t).getD ⟨.other, false, 1000000000, 0, .unit, [], []⟩, glob := fun _ => none, tab := tabs }
end Go.Proofs.YthooeghlplhlnaaDoor.Ev
