/- The tables of this seat for the evaluator: printed by mkenv.py, a program of mine, out of the translation. -/
import Derived.Lib.ItoaNum
import Derived.Lib.TrailingZeros
import Derived.Test.YthooeghlplhlnaaGreatDoorEv0
import Derived.Test.YthooeghlplhlnaaGreatDoorProg
namespace Go.Proofs.YthooeghlplhlnaaGreatDoor.Ev
open Go

abbrev noS : ByteArray := ⟨#[]⟩
abbrev T_boundsError : Ty := (.st (.pair (.int .i64) (.pair (.int .i64) (.pair .bool (.pair (.int .u8) .unit)))))
abbrev T_errorAddressString : Ty := (.st (.pair .str (.pair (.int .u64) .unit)))
abbrev T_EntriesResult : Ty := (.st (.pair (.int .i64) (.pair (.int .i64) (.pair (.sl (.st (.pair .str (.pair (.int .i64) (.pair (.int .i64) (.pair .str .unit)))))) .unit))))
abbrev T_TextResult : Ty := (.st (.pair (.int .i64) (.pair .str .unit)))
abbrev T_LinesResult : Ty := (.st (.pair (.int .i64) (.pair (.sl .str) .unit)))
abbrev T_FilesResult : Ty := (.st (.pair (.int .i64) (.pair (.sl (.st (.pair .str (.pair (.int .i64) (.pair .str .unit))))) .unit)))
abbrev T_File : Ty := (.st (.pair .str (.pair (.int .i64) (.pair .str .unit))))
abbrev T_Entry : Ty := (.st (.pair .str (.pair (.int .i64) (.pair (.int .i64) (.pair .str .unit)))))
abbrev T_l1Src : Ty := (.st (.pair (.sl (.int .u8)) (.pair (.int .i64) .unit)))
abbrev T_acceptRange : Ty := (.st (.pair (.int .u8) (.pair (.int .u8) .unit)))
def ty2 : TI := ⟨.int .i64, false, 1, 8, .int .i64, [], [.int .i64 0]⟩
def ty3 : TI := ⟨.int .i64, false, 1, 8, .int .i64, [], [.int .i64 0]⟩
def ty4 : TI := ⟨.bool, false, 1, 1, .bool, [], [.bool false]⟩
def ty5 : TI := ⟨.int .u8, false, 1, 1, .int .u8, [], [.int .u8 0]⟩
def ty7 : TI := ⟨.struct, true, 4, 24, (.st (.pair (.int .i64) (.pair (.int .i64) (.pair .bool (.pair (.int .u8) .unit))))), [(0, 1, false), (1, 1, false), (2, 1, false), (3, 1, false)], [.int .i64 0, .int .i64 0, .bool false, .int .u8 0]⟩
def ty9 : TI := ⟨.str, false, 1, 16, .str, [], [.str ⟨#[]⟩]⟩
def ty12 : TI := ⟨.int .u64, false, 1, 8, .int .u64, [], [.int .u64 0]⟩
def ty13 : TI := ⟨.struct, true, 2, 24, (.st (.pair .str (.pair (.int .u64) .unit))), [(0, 1, false), (1, 1, false)], [.str ⟨#[]⟩, .int .u64 0]⟩
def ty15 : TI := ⟨.ptr 190, false, 1, 8, .unit, [], [.raw (.pointer none)]⟩
def ty16 : TI := ⟨.ptr 193, false, 1, 8, .unit, [], [.raw (.pointer none)]⟩
def ty17 : TI := ⟨.ptr 201, false, 1, 8, .unit, [], [.raw (.pointer none)]⟩
def ty18 : TI := ⟨.struct, true, 1, 8, .unit, [(0, 1, false)], [.raw (.pointer none)]⟩
def ty19 : TI := ⟨.struct, true, 1, 8, .unit, [(0, 1, false)], [.raw (.pointer none)]⟩
def ty21 : TI := ⟨.int .i32, false, 1, 4, .int .i32, [], [.int .i32 0]⟩
def ty22 : TI := ⟨.slice 58, false, 1, 24, (.sl (.st (.pair .str (.pair (.int .i64) (.pair (.int .i64) (.pair .str .unit)))))), [], [.emp]⟩
def ty23 : TI := ⟨.struct, true, 3, 40, (.st (.pair (.int .i64) (.pair (.int .i64) (.pair (.sl (.st (.pair .str (.pair (.int .i64) (.pair (.int .i64) (.pair .str .unit)))))) .unit)))), [(0, 1, false), (1, 1, false), (2, 1, false)], [.int .i64 0, .int .i64 0, .emp]⟩
def ty24 : TI := ⟨.struct, true, 3, 40, (.st (.pair (.int .i64) (.pair (.int .i64) (.pair (.sl (.st (.pair .str (.pair (.int .i64) (.pair (.int .i64) (.pair .str .unit)))))) .unit)))), [(0, 1, false), (1, 1, false), (2, 1, false)], [.int .i64 0, .int .i64 0, .emp]⟩
def ty29 : TI := ⟨.slice 5, false, 1, 24, (.sl (.int .u8)), [], [.emp]⟩
def ty32 : TI := ⟨.struct, true, 2, 24, (.st (.pair (.int .i64) (.pair .str .unit))), [(0, 1, false), (1, 1, false)], [.int .i64 0, .str ⟨#[]⟩]⟩
def ty33 : TI := ⟨.struct, true, 2, 24, (.st (.pair (.int .i64) (.pair .str .unit))), [(0, 1, false), (1, 1, false)], [.int .i64 0, .str ⟨#[]⟩]⟩
def ty42 : TI := ⟨.slice 9, false, 1, 24, (.sl .str), [], [.emp]⟩
def ty43 : TI := ⟨.struct, true, 2, 32, (.st (.pair (.int .i64) (.pair (.sl .str) .unit))), [(0, 1, false), (1, 1, false)], [.int .i64 0, .emp]⟩
def ty44 : TI := ⟨.struct, true, 2, 32, (.st (.pair (.int .i64) (.pair (.sl .str) .unit))), [(0, 1, false), (1, 1, false)], [.int .i64 0, .emp]⟩
def ty47 : TI := ⟨.slice 52, false, 1, 24, (.sl (.st (.pair .str (.pair (.int .i64) (.pair .str .unit))))), [], [.emp]⟩
def ty48 : TI := ⟨.struct, true, 2, 32, (.st (.pair (.int .i64) (.pair (.sl (.st (.pair .str (.pair (.int .i64) (.pair .str .unit))))) .unit))), [(0, 1, false), (1, 1, false)], [.int .i64 0, .emp]⟩
def ty49 : TI := ⟨.struct, true, 2, 32, (.st (.pair (.int .i64) (.pair (.sl (.st (.pair .str (.pair (.int .i64) (.pair .str .unit))))) .unit))), [(0, 1, false), (1, 1, false)], [.int .i64 0, .emp]⟩
def ty51 : TI := ⟨.struct, true, 3, 40, (.st (.pair .str (.pair (.int .i64) (.pair .str .unit)))), [(0, 1, false), (1, 1, false), (2, 1, false)], [.str ⟨#[]⟩, .int .i64 0, .str ⟨#[]⟩]⟩
def ty52 : TI := ⟨.struct, true, 3, 40, (.st (.pair .str (.pair (.int .i64) (.pair .str .unit)))), [(0, 1, false), (1, 1, false), (2, 1, false)], [.str ⟨#[]⟩, .int .i64 0, .str ⟨#[]⟩]⟩
def ty57 : TI := ⟨.struct, true, 4, 48, (.st (.pair .str (.pair (.int .i64) (.pair (.int .i64) (.pair .str .unit))))), [(0, 1, false), (1, 1, false), (2, 1, false), (3, 1, false)], [.str ⟨#[]⟩, .int .i64 0, .int .i64 0, .str ⟨#[]⟩]⟩
def ty58 : TI := ⟨.struct, true, 4, 48, (.st (.pair .str (.pair (.int .i64) (.pair (.int .i64) (.pair .str .unit))))), [(0, 1, false), (1, 1, false), (2, 1, false), (3, 1, false)], [.str ⟨#[]⟩, .int .i64 0, .int .i64 0, .str ⟨#[]⟩]⟩
def ty67 : TI := ⟨.ptr 104, false, 1, 8, .unit, [], [.raw (.pointer none)]⟩
def ty92 : TI := ⟨.ptr 94, false, 1, 8, .unit, [], [.raw (.pointer none)]⟩
def ty93 : TI := ⟨.struct, true, 2, 32, .unit, [(0, 1, false), (1, 1, false)], [.raw (.pointer none), .emp]⟩
def ty94 : TI := ⟨.struct, true, 2, 32, .unit, [(0, 1, false), (1, 1, false)], [.raw (.pointer none), .raw (.slice none 0 0)]⟩
def ty97 : TI := ⟨.other, false, 1, 16, .unit, [], [.raw .nilIface]⟩
def ty101 : TI := ⟨.slice 2, false, 1, 24, (.sl (.int .i64)), [], [.emp]⟩
def ty103 : TI := ⟨.struct, true, 2, 32, (.st (.pair (.sl (.int .u8)) (.pair (.int .i64) .unit))), [(0, 1, false), (1, 1, false)], [.emp, .int .i64 0]⟩
def ty104 : TI := ⟨.struct, true, 2, 32, (.st (.pair (.sl (.int .u8)) (.pair (.int .i64) .unit))), [(0, 1, false), (1, 1, false)], [.emp, .int .i64 0]⟩
def ty122 : TI := ⟨.ptr 5, false, 1, 8, .unit, [], [.raw (.pointer none)]⟩
def ty124 : TI := ⟨.array 256 4, true, 256, 256, .unit, [], [.top]⟩
def ty125 : TI := ⟨.array 256 4, true, 256, 256, .unit, [], [.top]⟩
def ty129 : TI := ⟨.ptr 125, false, 1, 8, .unit, [], [.raw (.pointer none)]⟩
def ty131 : TI := ⟨.array 3 9, true, 3, 48, .unit, [], [.str ⟨#[]⟩, .str ⟨#[]⟩, .str ⟨#[]⟩]⟩
def ty134 : TI := ⟨.int .u64, false, 1, 8, .int .u64, [], [.int .u64 0]⟩
def ty140 : TI := ⟨.slice 3, false, 1, 24, (.sl (.int .i64)), [], [.emp]⟩
def ty142 : TI := ⟨.other, false, 1, 8, .unit, [], [.raw (.pointer none)]⟩
def ty149 : TI := ⟨.int .i64, false, 1, 8, .int .i64, [], [.int .i64 0]⟩
def ty156 : TI := ⟨.int .u32, false, 1, 4, .int .u32, [], [.int .u32 0]⟩
def ty158 : TI := ⟨.int .u64, false, 1, 8, .int .u64, [], [.int .u64 0]⟩
def ty161 : TI := ⟨.array 24 5, true, 24, 24, .unit, [], [.top]⟩
def ty166 : TI := ⟨.int .u64, false, 1, 8, .int .u64, [], [.int .u64 0]⟩
def ty170 : TI := ⟨.ptr 3, false, 1, 8, .unit, [], [.raw (.pointer none)]⟩
def ty173 : TI := ⟨.array 256 5, true, 256, 256, .unit, [], [.top]⟩
def ty174 : TI := ⟨.struct, true, 2, 2, (.st (.pair (.int .u8) (.pair (.int .u8) .unit))), [(0, 1, false), (1, 1, false)], [.int .u8 0, .int .u8 0]⟩
def ty175 : TI := ⟨.struct, true, 2, 2, (.st (.pair (.int .u8) (.pair (.int .u8) .unit))), [(0, 1, false), (1, 1, false)], [.int .u8 0, .int .u8 0]⟩
def ty176 : TI := ⟨.array 16 175, true, 32, 32, .unit, [], [.int .u8 0, .int .u8 0, .int .u8 0, .int .u8 0, .int .u8 0, .int .u8 0, .int .u8 0, .int .u8 0, .int .u8 0, .int .u8 0, .int .u8 0, .int .u8 0, .int .u8 0, .int .u8 0, .int .u8 0, .int .u8 0, .int .u8 0, .int .u8 0, .int .u8 0, .int .u8 0, .int .u8 0, .int .u8 0, .int .u8 0, .int .u8 0, .int .u8 0, .int .u8 0, .int .u8 0, .int .u8 0, .int .u8 0, .int .u8 0, .int .u8 0, .int .u8 0]⟩
def ty179 : TI := ⟨.array 20 158, true, 20, 160, .unit, [], [.top]⟩
def ty180 : TI := ⟨.array 65 5, true, 65, 65, .unit, [], [.top]⟩
def ty182 : TI := ⟨.ptr 166, false, 1, 8, .unit, [], [.raw (.pointer none)]⟩
def ty187 : TI := ⟨.array 32 5, true, 32, 32, .unit, [], [.top]⟩
def ty188 : TI := ⟨.array 64 5, true, 64, 64, .unit, [], [.top]⟩
def ty189 : TI := ⟨.struct, true, 4, 40, .unit, [(0, 1, false), (1, 1, false), (2, 1, false), (3, 1, false)], [.raw (.pointer none), .raw (.pointer none), .raw (.pointer none), .str ⟨#[]⟩]⟩
def ty191 : TI := ⟨.other, true, 0, 0, .unit, [], []⟩
def ty192 : TI := ⟨.struct, true, 0, 0, .unit, [(0, 0, true)], []⟩
def ty198 : TI := ⟨.int .i32, false, 1, 4, .int .i32, [], [.int .i32 0]⟩
def ty199 : TI := ⟨.int .i32, false, 1, 4, .int .i32, [], [.int .i32 0]⟩
def ty200 : TI := ⟨.struct, true, 11, 48, .unit, [(0, 1, false), (1, 1, false), (2, 1, false), (3, 1, false), (4, 1, false), (5, 1, false), (6, 1, false), (7, 1, false), (8, 1, false), (9, 1, false), (10, 1, false)], [.int .u64 0, .int .u64 0, .int .u32 0, .int .u8 0, .int .u8 0, .int .u8 0, .int .u8 0, .raw .nilFunc, .raw (.pointer none), .int .i32 0, .int .i32 0]⟩
def ty201 : TI := ⟨.struct, true, 11, 48, .unit, [(0, 1, false), (1, 1, false), (2, 1, false), (3, 1, false), (4, 1, false), (5, 1, false), (6, 1, false), (7, 1, false), (8, 1, false), (9, 1, false), (10, 1, false)], [.int .u64 0, .int .u64 0, .int .u32 0, .int .u8 0, .int .u8 0, .int .u8 0, .int .u8 0, .raw .nilFunc, .raw (.pointer none), .int .i32 0, .int .i32 0]⟩
def tiT : Tr TI := (.node 97 ty97 (.node 29 ty29 (.node 15 ty15 (.node 7 ty7 (.node 4 ty4 (.node 3 ty3 (.node 2 ty2 .leaf .leaf) .leaf) (.node 5 ty5 .leaf .leaf)) (.node 12 ty12 (.node 9 ty9 .leaf .leaf) (.node 13 ty13 .leaf .leaf))) (.node 21 ty21 (.node 18 ty18 (.node 17 ty17 (.node 16 ty16 .leaf .leaf) .leaf) (.node 19 ty19 .leaf .leaf)) (.node 23 ty23 (.node 22 ty22 .leaf .leaf) (.node 24 ty24 .leaf .leaf)))) (.node 51 ty51 (.node 44 ty44 (.node 42 ty42 (.node 33 ty33 (.node 32 ty32 .leaf .leaf) .leaf) (.node 43 ty43 .leaf .leaf)) (.node 48 ty48 (.node 47 ty47 .leaf .leaf) (.node 49 ty49 .leaf .leaf))) (.node 67 ty67 (.node 57 ty57 (.node 52 ty52 .leaf .leaf) (.node 58 ty58 .leaf .leaf)) (.node 93 ty93 (.node 92 ty92 .leaf .leaf) (.node 94 ty94 .leaf .leaf))))) (.node 170 ty170 (.node 134 ty134 (.node 124 ty124 (.node 104 ty104 (.node 103 ty103 (.node 101 ty101 .leaf .leaf) .leaf) (.node 122 ty122 .leaf .leaf)) (.node 129 ty129 (.node 125 ty125 .leaf .leaf) (.node 131 ty131 .leaf .leaf))) (.node 156 ty156 (.node 142 ty142 (.node 140 ty140 .leaf .leaf) (.node 149 ty149 .leaf .leaf)) (.node 161 ty161 (.node 158 ty158 .leaf .leaf) (.node 166 ty166 .leaf .leaf)))) (.node 188 ty188 (.node 179 ty179 (.node 175 ty175 (.node 174 ty174 (.node 173 ty173 .leaf .leaf) .leaf) (.node 176 ty176 .leaf .leaf)) (.node 182 ty182 (.node 180 ty180 .leaf .leaf) (.node 187 ty187 .leaf .leaf))) (.node 198 ty198 (.node 191 ty191 (.node 189 ty189 .leaf .leaf) (.node 192 ty192 .leaf .leaf)) (.node 200 ty200 (.node 199 ty199 .leaf .leaf) (.node 201 ty201 .leaf .leaf))))))
/-- loop.example/g00172/laws.FnExactParseIndex -/
noncomputable def fi3 : FI := ⟨Go.Proofs.Tryz.f3, [], [.bool], false, false, false, []⟩
/-- loop.example/g00172/laws.FnIndexTexts -/
noncomputable def fi4 : FI := ⟨Go.Proofs.Tryz.f4, [], [.bool], false, false, false, []⟩
/-- loop.example/g00172/laws.FnResolves -/
noncomputable def fi5 : FI := ⟨Go.Proofs.Tryz.f5, [(15, [3, 4, 7, 11], []), (22, [3, 4, 7, 11, 12, 13, 14, 15, 16], []), (27, [3, 4, 7, 11, 13, 14, 15, 17], [])], [.bool], false, false, false, []⟩
/-- loop.example/g00172/spec.ParseIndex -/
noncomputable def fi6 : FI := ⟨Go.Proofs.Tryz.f6, [(7, [0, 2, 3, 4, 5, 6], [])], [(.st (.pair (.int .i64) (.pair (.int .i64) (.pair (.sl (.st (.pair .str (.pair (.int .i64) (.pair (.int .i64) (.pair .str .unit)))))) .unit))))], false, false, false, []⟩
/-- loop.example/g00172/impl.ParseIndex -/
noncomputable def fi7 : FI := ⟨Go.Proofs.Tryz.f7, [(4, [2, 3, 4], [])], [(.st (.pair (.int .i64) (.pair (.int .i64) (.pair (.sl (.st (.pair .str (.pair (.int .i64) (.pair (.int .i64) (.pair .str .unit)))))) .unit))))], true, false, false, []⟩
/-- loop.example/g00172/laws.eqEntriesResult -/
noncomputable def fi8 : FI := ⟨Go.Proofs.Tryz.f8, [], [.bool], false, false, false, []⟩
/-- loop.example/g00172/laws.markEntriesResult -/
noncomputable def fi9 : FI := ⟨Go.Proofs.Tryz.f9, [], [.int .i64], true, false, true, [(.st (.pair .str (.pair (.int .i64) (.pair (.int .i64) (.pair .str .unit)))))]⟩
/-- loop.example/g00172/laws.heldEntriesResult -/
noncomputable def fi10 : FI := ⟨Go.Proofs.Tryz.f10, [], [.int .i64], false, false, false, []⟩
/-- loop.example/g00172/laws.lwBig -/
noncomputable def fi11 : FI := ⟨Go.Proofs.Tryz.f11, [], [.bool], false, false, false, []⟩
/-- loop.example/g00172/spec.DrawParseIndex -/
noncomputable def fi12 : FI := ⟨Go.Proofs.Tryz.f12, [], [.str], false, false, false, []⟩
/-- loop.example/g00172/impl.FormatIndex -/
noncomputable def fi13 : FI := ⟨Go.Proofs.Tryz.f13, [], [(.st (.pair (.int .i64) (.pair .str .unit)))], false, false, false, []⟩
/-- loop.example/g00172/spec.DrawFormatIndex -/
noncomputable def fi14 : FI := ⟨Go.Proofs.Tryz.f14, [], [(.sl (.st (.pair .str (.pair (.int .i64) (.pair (.int .i64) (.pair .str .unit))))))], false, false, false, []⟩
/-- loop.example/g00172/spec.IndexFault -/
noncomputable def fi15 : FI := ⟨Go.Proofs.Tryz.f15, [(4, [0, 3], [])], [.int .i64], false, false, false, []⟩
/-- loop.example/g00172/laws.lwEntries -/
noncomputable def fi16 : FI := ⟨Go.Proofs.Tryz.f16, [(4, [0, 1, 5], [])], [.bool], false, false, false, []⟩
/-- loop.example/g00172/spec.DrawResolvePath -/
noncomputable def fi17 : FI := ⟨Go.Proofs.Tryz.f17, [], [(.sl (.st (.pair .str (.pair (.int .i64) (.pair (.int .i64) (.pair .str .unit)))))), .str, .int .i64, .str], false, false, false, []⟩
/-- loop.example/g00172/impl.ResolvePath -/
noncomputable def fi18 : FI := ⟨Go.Proofs.Tryz.f18, [], [(.st (.pair (.int .i64) (.pair (.int .i64) (.pair (.sl (.st (.pair .str (.pair (.int .i64) (.pair (.int .i64) (.pair .str .unit)))))) .unit))))], false, false, false, []⟩
/-- loop.example/g00172/impl.SwapStages -/
noncomputable def fi19 : FI := ⟨Go.Proofs.Tryz.f19, [], [(.st (.pair (.int .i64) (.pair (.int .i64) (.pair (.sl (.st (.pair .str (.pair (.int .i64) (.pair (.int .i64) (.pair .str .unit)))))) .unit))))], true, false, false, []⟩
/-- loop.example/g00172/spec.ResolvePath -/
noncomputable def fi20 : FI := ⟨Go.Proofs.Tryz.f20, [], [(.st (.pair (.int .i64) (.pair (.int .i64) (.pair (.sl (.st (.pair .str (.pair (.int .i64) (.pair (.int .i64) (.pair .str .unit)))))) .unit))))], false, false, false, []⟩
/-- loop.example/g00172/impl.ClashesIn -/
noncomputable def fi21 : FI := ⟨Go.Proofs.Tryz.f21, [], [(.st (.pair (.int .i64) (.pair (.sl .str) .unit)))], false, false, false, []⟩
/-- loop.example/g00172/impl.IndexFault -/
noncomputable def fi22 : FI := ⟨Go.Proofs.Tryz.f22, [(4, [0, 8, 9, 10], [])], [.int .i64], false, false, false, []⟩
/-- loop.example/g00172/laws.lwHas -/
noncomputable def fi23 : FI := ⟨Go.Proofs.Tryz.f23, [(2, [0, 1, 5], [])], [.bool], false, false, false, []⟩
/-- loop.example/g00172/impl.StageFiles -/
noncomputable def fi24 : FI := ⟨Go.Proofs.Tryz.f24, [], [(.st (.pair (.int .i64) (.pair (.sl (.st (.pair .str (.pair (.int .i64) (.pair .str .unit))))) .unit)))], false, false, false, []⟩
/-- loop.example/g00172/laws.lwFiles -/
noncomputable def fi25 : FI := ⟨Go.Proofs.Tryz.f25, [(4, [0, 1, 5], [])], [.bool], false, false, false, []⟩
/-- loop.example/g00172/spec.l1Split -/
noncomputable def fi26 : FI := ⟨Go.Proofs.Tryz.f26, [(4, [0, 3, 4, 5], [])], [(.sl .str)], false, false, false, []⟩
/-- loop.example/g00172/spec.l6Unline -/
noncomputable def fi27 : FI := ⟨Go.Proofs.Tryz.f27, [], [.str, .bool], false, false, false, []⟩
/-- loop.example/g00172/spec.l10Line -/
noncomputable def fi28 : FI := ⟨Go.Proofs.Tryz.f28, [(6, [2, 4, 5, 6], [])], [(.st (.pair .str (.pair (.int .i64) (.pair (.int .i64) (.pair .str .unit))))), .bool], false, false, false, []⟩
/-- loop.example/g00172/spec.l10Sum -/
noncomputable def fi29 : FI := ⟨Go.Proofs.Tryz.f29, [(5, [3, 5], [])], [.bool], false, false, false, []⟩
/-- loop.example/g00172/spec.l10Text -/
noncomputable def fi30 : FI := ⟨Go.Proofs.Tryz.f30, [(3, [0, 3, 4], [])], [.str], false, false, false, []⟩
/-- loop.example/g00172/impl.linesOf -/
noncomputable def fi31 : FI := ⟨Go.Proofs.Tryz.f31, [], [(.sl .str)], false, false, false, []⟩
/-- loop.example/g00172/impl.entryOf -/
noncomputable def fi32 : FI := ⟨Go.Proofs.Tryz.f32, [], [(.st (.pair .str (.pair (.int .i64) (.pair (.int .i64) (.pair .str .unit))))), .bool], false, false, false, []⟩
/-- loop.example/g00172/impl.isSumLine -/
noncomputable def fi34 : FI := ⟨Go.Proofs.Tryz.f34, [], [.bool], false, false, false, []⟩
/-- loop.example/g00172/impl.firstCode -/
noncomputable def fi35 : FI := ⟨Go.Proofs.Tryz.f35, [(2, [5, 6, 7], [])], [.int .i64], false, false, false, []⟩
/-- loop.example/g00172/impl.codeIf -/
noncomputable def fi36 : FI := ⟨Go.Proofs.Tryz.f36, [], [.int .i64], false, false, false, []⟩
/-- loop.example/g00172/impl.sumLine -/
noncomputable def fi37 : FI := ⟨Go.Proofs.Tryz.f37, [], [.str], false, false, false, []⟩
/-- loop.example/g00172/impl.entriesText -/
noncomputable def fi38 : FI := ⟨Go.Proofs.Tryz.f38, [(3, [3, 7, 8, 9], [])], [.str], false, false, false, []⟩
/-- loop.example/g00172/laws.eqEntryS -/
noncomputable def fi39 : FI := ⟨Go.Proofs.Tryz.f39, [(4, [0, 1, 5], [])], [.bool], false, false, false, []⟩
/-- loop.example/g00172/laws.markEntryS -/
noncomputable def fi40 : FI := ⟨Go.Proofs.Tryz.f40, [(2, [0, 1, 5], [])], [.int .i64], true, false, true, [(.st (.pair .str (.pair (.int .i64) (.pair (.int .i64) (.pair .str .unit)))))]⟩
/-- loop.example/g00172/laws.heldEntryS -/
noncomputable def fi41 : FI := ⟨Go.Proofs.Tryz.f41, [(2, [0, 1, 5], [])], [.int .i64], false, false, false, []⟩
/-- loop.example/g00172/spec.l1Source -/
noncomputable def fi42 : FI := ⟨Go.Proofs.Tryz.f42, [], [.unit], false, false, false, []⟩
/-- loop.example/g00172/spec.FormatIndex -/
noncomputable def fi43 : FI := ⟨Go.Proofs.Tryz.f43, [], [(.st (.pair (.int .i64) (.pair .str .unit)))], false, false, false, []⟩
/-- loop.example/g00172/spec.l10Draw -/
noncomputable def fi44 : FI := ⟨Go.Proofs.Tryz.f44, [(4, [0, 3, 4, 5], []), (11, [0, 3, 4, 5, 6], [])], [(.sl (.st (.pair .str (.pair (.int .i64) (.pair (.int .i64) (.pair .str .unit))))))], false, false, false, []⟩
/-- loop.example/g00172/spec.l1Chance -/
noncomputable def fi45 : FI := ⟨Go.Proofs.Tryz.f45, [], [.bool], false, false, false, []⟩
/-- loop.example/g00172/spec.l3Cut -/
noncomputable def fi46 : FI := ⟨Go.Proofs.Tryz.f46, [], [.str], false, false, false, []⟩
/-- loop.example/g00172/spec.PathFault -/
noncomputable def fi47 : FI := ⟨Go.Proofs.Tryz.f47, [(5, [3, 4], [])], [.int .i64], false, false, false, []⟩
/-- loop.example/g00172/spec.l1In -/
noncomputable def fi48 : FI := ⟨Go.Proofs.Tryz.f48, [], [.bool], false, false, false, []⟩
/-- loop.example/g00172/spec.l10Mode -/
noncomputable def fi49 : FI := ⟨Go.Proofs.Tryz.f49, [], [.bool], false, false, false, []⟩
/-- loop.example/g00172/spec.l6Is -/
noncomputable def fi50 : FI := ⟨Go.Proofs.Tryz.f50, [], [.bool], false, false, false, []⟩
/-- loop.example/g00172/spec.l10Behind -/
noncomputable def fi51 : FI := ⟨Go.Proofs.Tryz.f51, [], [.bool], false, false, false, []⟩
/-- loop.example/g00172/spec.l7Path -/
noncomputable def fi52 : FI := ⟨Go.Proofs.Tryz.f52, [], [.str], false, false, false, []⟩
/-- loop.example/g00172/spec.l10Clashes -/
noncomputable def fi53 : FI := ⟨Go.Proofs.Tryz.f53, [(3, [0, 3, 4], [])], [(.sl .str)], false, false, false, []⟩
/-- loop.example/g00172/spec.l1Next -/
noncomputable def fi54 : FI := ⟨Go.Proofs.Tryz.f54, [], [.int .i64], false, false, false, []⟩
/-- loop.example/g00172/spec.l1Pick -/
noncomputable def fi55 : FI := ⟨Go.Proofs.Tryz.f55, [], [.int .i64], false, false, false, []⟩
/-- loop.example/g00172/impl.resolveCode -/
noncomputable def fi56 : FI := ⟨Go.Proofs.Tryz.f56, [], [.int .i64], false, false, false, []⟩
/-- loop.example/g00172/impl.resolve -/
noncomputable def fi57 : FI := ⟨Go.Proofs.Tryz.f57, [(1, [0, 2, 3, 5], [(5, none, .frz .str)])], [(.sl (.st (.pair .str (.pair (.int .i64) (.pair (.int .i64) (.pair .str .unit))))))], false, false, false, []⟩
/-- loop.example/g00172/impl.swapStages -/
noncomputable def fi58 : FI := ⟨Go.Proofs.Tryz.f58, [(3, [3, 8, 9, 10], [])], [(.sl (.st (.pair .str (.pair (.int .i64) (.pair (.int .i64) (.pair .str .unit))))))], true, false, false, []⟩
/-- loop.example/g00172/spec.l9Has -/
noncomputable def fi59 : FI := ⟨Go.Proofs.Tryz.f59, [(2, [0, 1, 5], [])], [.bool], false, false, false, []⟩
/-- loop.example/g00172/spec.l10Resolve -/
noncomputable def fi60 : FI := ⟨Go.Proofs.Tryz.f60, [(3, [0, 1, 2, 3, 9, 10], [])], [(.sl (.st (.pair .str (.pair (.int .i64) (.pair (.int .i64) (.pair .str .unit))))))], false, false, false, []⟩
/-- loop.example/g00172/impl.clashesIn -/
noncomputable def fi61 : FI := ⟨Go.Proofs.Tryz.f61, [(3, [3, 7, 8, 9], [])], [(.sl .str)], false, false, false, []⟩
/-- loop.example/g00172/impl.PathFault -/
noncomputable def fi62 : FI := ⟨Go.Proofs.Tryz.f62, [], [.int .i64], false, false, false, []⟩
/-- loop.example/g00172/impl.within -/
noncomputable def fi63 : FI := ⟨Go.Proofs.Tryz.f63, [], [.bool], false, false, false, []⟩
/-- loop.example/g00172/impl.isFileMode -/
noncomputable def fi64 : FI := ⟨Go.Proofs.Tryz.f64, [], [.bool], false, false, false, []⟩
/-- loop.example/g00172/impl.isIdOf -/
noncomputable def fi65 : FI := ⟨Go.Proofs.Tryz.f65, [], [.bool], false, false, false, []⟩
/-- loop.example/g00172/impl.compareEntries -/
noncomputable def fi66 : FI := ⟨Go.Proofs.Tryz.f66, [], [.int .i64], false, false, false, []⟩
/-- loop.example/g00172/impl.stageFiles -/
noncomputable def fi67 : FI := ⟨Go.Proofs.Tryz.f67, [(3, [1, 5, 9, 10, 11], [])], [(.sl (.st (.pair .str (.pair (.int .i64) (.pair .str .unit)))))], false, false, false, []⟩
/-- loop.example/g00172/spec.l6Split -/
noncomputable def fi68 : FI := ⟨Go.Proofs.Tryz.f68, [(4, [0, 3, 4, 5], [])], [(.sl .str)], false, false, false, []⟩
/-- loop.example/g00172/spec.l6Words -/
noncomputable def fi69 : FI := ⟨Go.Proofs.Tryz.f69, [], [(.sl .str)], false, false, false, []⟩
/-- loop.example/g00172/spec.l6After -/
noncomputable def fi70 : FI := ⟨Go.Proofs.Tryz.f70, [], [.str, .bool], false, false, false, []⟩
/-- loop.example/g00172/spec.l3Digits -/
noncomputable def fi71 : FI := ⟨Go.Proofs.Tryz.f71, [], [.str], false, false, false, []⟩
/-- loop.example/g00172/spec.DigestOf -/
noncomputable def fi72 : FI := ⟨Go.Proofs.Tryz.f72, [(3, [0, 3, 4], [])], [.int .i64], false, false, false, []⟩
/-- strings.SplitAfter -/
noncomputable def fi73 : FI := ⟨Go.Proofs.Tryz.f73, [], [(.sl .str)], false, false, false, []⟩
/-- strings.Split -/
noncomputable def fi74 : FI := ⟨Go.Proofs.Tryz.f74, [], [(.sl .str)], false, false, false, []⟩
/-- strings.TrimSuffix -/
noncomputable def fi75 : FI := ⟨Go.Proofs.Tryz.f75, [], [.str], false, false, false, []⟩
/-- loop.example/g00172/impl.isWhole -/
noncomputable def fi76 : FI := ⟨Go.Proofs.Tryz.f76, [], [.bool], false, false, false, []⟩
/-- loop.example/g00172/impl.modeOf -/
noncomputable def fi77 : FI := ⟨Go.Proofs.Tryz.f77, [], [.int .i64], false, false, false, []⟩
/-- (*strings.Builder).Grow -/
noncomputable def fi78 : FI := ⟨Go.Proofs.Tryz.f78, [], [], false, false, false, []⟩
/-- (*strings.Builder).WriteString -/
noncomputable def fi79 : FI := ⟨Go.Proofs.Tryz.f79, [], [.int .i64, .unit], false, true, false, []⟩
/-- (*strings.Builder).String -/
noncomputable def fi80 : FI := ⟨Go.Proofs.Tryz.f80, [], [.str], false, true, false, []⟩
/-- strings.CutPrefix -/
noncomputable def fi81 : FI := ⟨Go.Proofs.Tryz.f81, [], [.str, .bool], false, false, false, []⟩
/-- strings.CutSuffix -/
noncomputable def fi82 : FI := ⟨Go.Proofs.Tryz.f82, [], [.str, .bool], false, false, false, []⟩
/-- loop.example/g00172/impl.decimal -/
noncomputable def fi84 : FI := ⟨Go.Proofs.Tryz.f84, [], [.str], false, false, false, []⟩
/-- loop.example/g00172/impl.DigestOf -/
noncomputable def fi85 : FI := ⟨Go.Proofs.Tryz.f85, [(3, [0, 3, 6, 7], [])], [.int .i64], false, false, false, []⟩
/-- loop.example/g00172/impl.modeWord -/
noncomputable def fi86 : FI := ⟨Go.Proofs.Tryz.f86, [], [.str], false, false, false, []⟩
/-- loop.example/g00172/laws.eqEntry -/
noncomputable def fi87 : FI := ⟨Go.Proofs.Tryz.f87, [], [.bool], false, false, false, []⟩
/-- loop.example/g00172/laws.markText -/
noncomputable def fi88 : FI := ⟨Go.Proofs.Tryz.f88, [(4, [0, 3], [])], [.str], false, false, false, []⟩
/-- loop.example/g00172/spec.l5Id -/
noncomputable def fi89 : FI := ⟨Go.Proofs.Tryz.f89, [(4, [0, 5, 6, 7], [])], [.str], false, false, false, []⟩
/-- loop.example/g00172/spec.l1Word -/
noncomputable def fi90 : FI := ⟨Go.Proofs.Tryz.f90, [], [.str], false, false, false, []⟩
/-- loop.example/g00172/spec.l7Parts -/
noncomputable def fi91 : FI := ⟨Go.Proofs.Tryz.f91, [(4, [0, 3, 4, 5], [])], [(.sl .str)], false, false, false, []⟩
/-- loop.example/g00172/spec.NameFault -/
noncomputable def fi92 : FI := ⟨Go.Proofs.Tryz.f92, [(4, [0, 3], [])], [.int .i64], false, false, false, []⟩
/-- loop.example/g00172/spec.IsId -/
noncomputable def fi93 : FI := ⟨Go.Proofs.Tryz.f93, [(4, [0, 3], [])], [.bool], false, false, false, []⟩
/-- loop.example/g00172/spec.l5Letter -/
noncomputable def fi94 : FI := ⟨Go.Proofs.Tryz.f94, [], [.str], false, false, false, []⟩
/-- loop.example/g00172/spec.l9Put -/
noncomputable def fi95 : FI := ⟨Go.Proofs.Tryz.f95, [(2, [0, 1, 5], [])], [(.sl .str)], false, false, false, []⟩
/-- slices.Contains[[]string,string] -/
noncomputable def fi96 : FI := ⟨Go.Proofs.Tryz.f96, [], [.bool], false, false, false, []⟩
/-- slices.DeleteFunc[[]loop.example/g00172/impl.Entry,loop.example/g00172/impl.Entry] -/
noncomputable def fi97 : FI := ⟨Go.Proofs.Tryz.f97, [(5, [0, 1, 5, 6], [])], [(.sl (.st (.pair .str (.pair (.int .i64) (.pair (.int .i64) (.pair .str .unit))))))], false, false, false, []⟩
/-- slices.Clone[[]loop.example/g00172/impl.Entry,loop.example/g00172/impl.Entry] -/
noncomputable def fi98 : FI := ⟨Go.Proofs.Tryz.f98, [], [(.sl (.st (.pair .str (.pair (.int .i64) (.pair (.int .i64) (.pair .str .unit))))))], true, false, false, []⟩
/-- loop.example/g00172/impl.resolve$1 -/
noncomputable def fi99 : FI := ⟨Go.Proofs.Tryz.f99, [], [.bool], false, true, false, []⟩
/-- slices.BinarySearchFunc[[]loop.example/g00172/impl.Entry,loop.example/g00172/impl.Entry,loop.example/g00172/impl.Entry] -/
noncomputable def fi100 : FI := ⟨Go.Proofs.Tryz.f100, [(3, [0, 2, 4, 8, 9, 10], [])], [.int .i64, .bool], false, false, false, []⟩
/-- loop.example/g00172/spec.l10Put -/
noncomputable def fi103 : FI := ⟨Go.Proofs.Tryz.f103, [(2, [0, 3, 5], [(3, none, .frz T_Entry)])], [(.sl (.st (.pair .str (.pair (.int .i64) (.pair (.int .i64) (.pair .str .unit))))))], true, false, false, []⟩
/-- slices.Compact[[]string,string] -/
noncomputable def fi104 : FI := ⟨Go.Proofs.Tryz.f104, [(4, [0, 3], []), (9, [0, 3, 4, 5], [])], [(.sl .str)], true, false, true, []⟩
/-- slices.ContainsFunc[[]string,string] -/
noncomputable def fi105 : FI := ⟨Go.Proofs.Tryz.f105, [], [.bool], false, false, false, []⟩
/-- loop.example/g00172/impl.PathFault$1 -/
noncomputable def fi106 : FI := ⟨Go.Proofs.Tryz.f106, [], [.bool], false, false, false, []⟩
/-- loop.example/g00172/impl.NameFault -/
noncomputable def fi107 : FI := ⟨Go.Proofs.Tryz.f107, [(4, [0, 22, 23], [])], [.int .i64], false, false, false, []⟩
/-- loop.example/g00172/impl.IsId -/
noncomputable def fi108 : FI := ⟨Go.Proofs.Tryz.f108, [], [.bool], false, false, false, []⟩
/-- cmp.Or[int] -/
noncomputable def fi109 : FI := ⟨Go.Proofs.Tryz.f109, [(3, [3, 6, 7, 8], [])], [.int .i64], false, false, false, []⟩
/-- strings.Compare -/
noncomputable def fi110 : FI := ⟨Go.Proofs.Tryz.f110, [], [.int .i64], false, false, false, []⟩
/-- cmp.Compare[int64] -/
noncomputable def fi111 : FI := ⟨Go.Proofs.Tryz.f111, [], [.int .i64], false, false, false, []⟩
/-- strings.genSplit -/
noncomputable def fi112 : FI := ⟨Go.Proofs.Tryz.f112, [(11, [0, 1, 2, 3, 9, 10], [])], [(.sl .str)], false, false, false, []⟩
/-- internal/stringslite.TrimSuffix -/
noncomputable def fi113 : FI := ⟨Go.Proofs.Tryz.f113, [], [.str], false, false, false, []⟩
/-- strings.HasSuffix -/
noncomputable def fi114 : FI := ⟨Go.Proofs.Tryz.f114, [], [.bool], false, false, false, []⟩
/-- slices.Index[[]string,string] -/
noncomputable def fi115 : FI := ⟨Go.Proofs.Tryz.f115, [(2, [0, 1, 7, 8], [])], [.int .i64], false, false, false, []⟩
/-- (*strings.Builder).grow -/
noncomputable def fi117 : FI := ⟨Go.Proofs.Tryz.f117, [], [], false, false, false, []⟩
/-- internal/stringslite.CutPrefix -/
noncomputable def fi118 : FI := ⟨Go.Proofs.Tryz.f118, [], [.str, .bool], false, false, false, []⟩
/-- internal/stringslite.CutSuffix -/
noncomputable def fi119 : FI := ⟨Go.Proofs.Tryz.f119, [], [.str, .bool], false, false, false, []⟩
/-- strings.trimLeftByte -/
noncomputable def fi120 : FI := ⟨Go.Proofs.Tryz.f120, [(1, [0, 1], [])], [.str], false, false, false, []⟩
/-- strings.trimRightByte -/
noncomputable def fi121 : FI := ⟨Go.Proofs.Tryz.f121, [(1, [0, 1], [])], [.str], false, false, false, []⟩
/-- strings.makeASCIISet -/
noncomputable def fi122 : FI := ⟨Go.Proofs.Tryz.f122, [(2, [0, 2, 4], [])], [.unit, .bool], false, false, false, []⟩
/-- strings.trimLeftASCII -/
noncomputable def fi123 : FI := ⟨Go.Proofs.Tryz.f123, [(1, [0, 1], [])], [.str], false, false, false, []⟩
/-- strings.trimRightASCII -/
noncomputable def fi124 : FI := ⟨Go.Proofs.Tryz.f124, [(1, [0, 1], [])], [.str], false, false, false, []⟩
/-- strings.trimLeftUnicode -/
noncomputable def fi125 : FI := ⟨Go.Proofs.Tryz.f125, [(1, [0, 1], [])], [.str], false, false, false, []⟩
/-- strings.trimRightUnicode -/
noncomputable def fi126 : FI := ⟨Go.Proofs.Tryz.f126, [(1, [0, 1], [])], [.str], false, false, false, []⟩
/-- loop.example/g00172/spec.l6NameByte -/
noncomputable def fi128 : FI := ⟨Go.Proofs.Tryz.f128, [], [.bool], false, false, false, []⟩
/-- slices.IndexFunc[[]loop.example/g00172/impl.Entry,loop.example/g00172/impl.Entry] -/
noncomputable def fi129 : FI := ⟨Go.Proofs.Tryz.f129, [(2, [0, 1, 7, 8], [])], [.int .i64], false, false, false, []⟩
/-- slices.rotateRight[loop.example/g00172/impl.Entry] -/
noncomputable def fi131 : FI := ⟨Go.Proofs.Tryz.f131, [], [], false, false, false, []⟩
/-- slices.pdqsortCmpFunc[loop.example/g00172/impl.Entry] -/
noncomputable def fi132 : FI := ⟨Go.Proofs.Tryz.f132, [(2, [0, 1, 2, 3, 4, 10, 11], [])], [], false, false, false, []⟩
/-- math/bits.Len -/
noncomputable def fi133 : FI := ⟨Go.Proofs.Tryz.f133, [], [.int .i64], false, false, false, []⟩
/-- slices.IndexFunc[[]string,string] -/
noncomputable def fi134 : FI := ⟨Go.Proofs.Tryz.f134, [(2, [0, 1, 7, 8], [])], [.int .i64], false, false, false, []⟩
/-- strings.IndexByte -/
noncomputable def fi135 : FI := ⟨Go.Proofs.Tryz.f135, [], [.int .i64], false, false, false, []⟩
/-- internal/bytealg.CompareString -/
noncomputable def fi136 : FI := ⟨Go.Proofs.Tryz.f136, [], [.int .i64], false, false, false, []⟩
/-- cmp.isNaN[int64] -/
noncomputable def fi137 : FI := ⟨Go.Proofs.Tryz.f137, [], [.bool], false, false, false, []⟩
/-- strings.explode -/
noncomputable def fi138 : FI := ⟨Go.Proofs.Tryz.f138, [(6, [0, 1, 6, 7], [])], [(.sl .str)], false, false, false, []⟩
/-- strings.Count -/
noncomputable def fi139 : FI := ⟨Go.Proofs.Tryz.f139, [(6, [0, 1, 5], [])], [.int .i64], false, false, false, []⟩
/-- strings.Index -/
noncomputable def fi140 : FI := ⟨Go.Proofs.Tryz.f140, [], [.int .i64], false, false, false, []⟩
/-- internal/stringslite.HasSuffix -/
noncomputable def fi141 : FI := ⟨Go.Proofs.Tryz.f141, [], [.bool], false, false, false, []⟩
/-- internal/stringslite.HasPrefix -/
noncomputable def fi144 : FI := ⟨Go.Proofs.Tryz.f144, [], [.bool], false, false, false, []⟩
/-- (*strings.asciiSet).contains -/
noncomputable def fi145 : FI := ⟨Go.Proofs.Tryz.f145, [], [.bool], false, false, false, []⟩
/-- unicode/utf8.DecodeRuneInString -/
noncomputable def fi146 : FI := ⟨Go.Proofs.Tryz.f146, [], [.int .i32, .int .i64], false, false, false, []⟩
/-- strings.ContainsRune -/
noncomputable def fi147 : FI := ⟨Go.Proofs.Tryz.f147, [], [.bool], false, false, false, []⟩
/-- unicode/utf8.DecodeLastRuneInString -/
noncomputable def fi148 : FI := ⟨Go.Proofs.Tryz.f148, [(10, [0, 4, 5, 6], [])], [.int .i32, .int .i64], false, false, false, []⟩
/-- internal/strconv.FormatInt -/
noncomputable def fi149 : FI := ⟨Go.Proofs.Tryz.f149, [], [.str], false, false, false, []⟩
/-- slices.rotateLeft[loop.example/g00172/impl.Entry] -/
noncomputable def fi150 : FI := ⟨Go.Proofs.Tryz.f150, [], [], false, false, false, []⟩
/-- slices.insertionSortCmpFunc[loop.example/g00172/impl.Entry] -/
noncomputable def fi151 : FI := ⟨Go.Proofs.Tryz.f151, [(1, [0, 1, 2, 3, 8], []), (4, [0, 1, 2, 3, 8, 9], [])], [], false, false, false, []⟩
/-- slices.heapSortCmpFunc[loop.example/g00172/impl.Entry] -/
noncomputable def fi152 : FI := ⟨Go.Proofs.Tryz.f152, [(4, [0, 3, 8, 9, 10, 11], []), (8, [0, 3, 8, 9, 12], [])], [], false, false, false, []⟩
/-- slices.breakPatternsCmpFunc[loop.example/g00172/impl.Entry] -/
noncomputable def fi153 : FI := ⟨Go.Proofs.Tryz.f153, [(5, [0, 1, 8, 9, 10, 11], [])], [], false, false, false, []⟩
/-- slices.choosePivotCmpFunc[loop.example/g00172/impl.Entry] -/
noncomputable def fi154 : FI := ⟨Go.Proofs.Tryz.f154, [], [.int .i64, .int .i64], false, false, false, []⟩
/-- slices.reverseRangeCmpFunc[loop.example/g00172/impl.Entry] -/
noncomputable def fi155 : FI := ⟨Go.Proofs.Tryz.f155, [(2, [0, 8, 9], [])], [], false, false, false, []⟩
/-- slices.partialInsertionSortCmpFunc[loop.example/g00172/impl.Entry] -/
noncomputable def fi156 : FI := ⟨Go.Proofs.Tryz.f156, [(3, [0, 1, 2, 3, 9, 10], []), (5, [0, 1, 2, 3, 9, 10], []), (14, [0, 1, 2, 3, 9, 10, 11], []), (20, [0, 1, 2, 3, 9, 10, 12], [])], [.bool], false, false, false, []⟩
/-- slices.partitionEqualCmpFunc[loop.example/g00172/impl.Entry] -/
noncomputable def fi157 : FI := ⟨Go.Proofs.Tryz.f157, [(3, [0, 1, 4, 11, 12], []), (5, [0, 1, 4, 11, 12], [])], [.int .i64], false, false, false, []⟩
/-- slices.partitionCmpFunc[loop.example/g00172/impl.Entry] -/
noncomputable def fi158 : FI := ⟨Go.Proofs.Tryz.f158, [(3, [0, 1, 4, 12, 13], []), (5, [0, 1, 4, 12, 13], []), (13, [0, 1, 4, 12, 13], []), (15, [0, 1, 4, 12, 13], [])], [.int .i64, .bool], false, false, false, []⟩
/-- math/bits.Len32 -/
noncomputable def fi159 : FI := ⟨Go.Proofs.Tryz.f159, [], [.int .i64], false, false, false, []⟩
/-- math/bits.Len64 -/
noncomputable def fi160 : FI := ⟨Go.Proofs.Tryz.f160, [], [.int .i64], false, false, false, []⟩
/-- internal/stringslite.IndexByte -/
noncomputable def fi161 : FI := ⟨Go.Proofs.Tryz.f161, [], [.int .i64], false, false, false, []⟩
/-- unicode/utf8.RuneCountInString -/
noncomputable def fi163 : FI := ⟨Go.Proofs.Tryz.f163, [(2, [2, 4], [])], [.int .i64], false, false, false, []⟩
/-- internal/stringslite.Index -/
noncomputable def fi165 : FI := ⟨Go.Proofs.Tryz.f165, [(15, [0, 1, 5, 6, 7, 8, 9, 10], [])], [.int .i64], false, false, false, []⟩
/-- unicode/utf8.decodeRuneInStringSlow -/
noncomputable def fi166 : FI := ⟨Go.Proofs.Tryz.f166, [], [.int .i32, .int .i64], false, false, false, []⟩
/-- strings.IndexRune -/
noncomputable def fi167 : FI := ⟨Go.Proofs.Tryz.f167, [(5, [0, 7, 8, 9], []), (12, [0, 7, 8, 9, 12], []), (25, [0, 7, 8, 9, 14, 15], []), (29, [0, 7, 8, 9, 14, 15, 16], []), (38, [175], [])], [.int .i64], false, false, false, []⟩
/-- unicode/utf8.RuneStart -/
noncomputable def fi168 : FI := ⟨Go.Proofs.Tryz.f168, [], [.bool], false, false, false, []⟩
/-- internal/strconv.small -/
noncomputable def fi169 : FI := ⟨Go.Proofs.Tryz.f169, [], [.str], false, false, false, []⟩
/-- internal/strconv.numDigits -/
noncomputable def fi170 : FI := ⟨Go.Proofs.Tryz.f170, [], [.int .i64], false, false, false, []⟩
/-- internal/strconv.formatBase10 -/
noncomputable def fi171 : FI := ⟨Go.Proofs.Tryz.f171, [(1, [0, 1, 4], [])], [], false, false, false, []⟩
/-- internal/strconv.formatBits -/
noncomputable def fi172 : FI := ⟨Go.Proofs.Tryz.f172, [(18, [0, 1, 3, 4, 10, 11, 12, 13, 17], []), (11, [0, 1, 3, 4, 10, 11, 12, 13, 14, 15, 16], [])], [(.sl (.int .u8)), .str], false, false, false, []⟩
/-- slices.Reverse[[]loop.example/g00172/impl.Entry,loop.example/g00172/impl.Entry] -/
noncomputable def fi173 : FI := ⟨Go.Proofs.Tryz.f173, [(1, [0, 2, 3], [])], [], false, false, false, []⟩
/-- slices.siftDownCmpFunc[loop.example/g00172/impl.Entry] -/
noncomputable def fi174 : FI := ⟨Go.Proofs.Tryz.f174, [(1, [0, 2, 3, 4, 10], [])], [], false, false, false, []⟩
/-- slices.nextPowerOfTwo -/
noncomputable def fi175 : FI := ⟨Go.Proofs.Tryz.f175, [], [.int .u64], false, false, false, []⟩
/-- (*slices.xorshift).Next -/
noncomputable def fi176 : FI := ⟨Go.Proofs.Tryz.f176, [], [.int .u64], false, false, false, []⟩
/-- slices.medianAdjacentCmpFunc[loop.example/g00172/impl.Entry] -/
noncomputable def fi177 : FI := ⟨Go.Proofs.Tryz.f177, [], [.int .i64], false, false, false, []⟩
/-- slices.medianCmpFunc[loop.example/g00172/impl.Entry] -/
noncomputable def fi178 : FI := ⟨Go.Proofs.Tryz.f178, [], [.int .i64], false, false, false, []⟩
/-- internal/bytealg.Cutover -/
noncomputable def fi181 : FI := ⟨Go.Proofs.Tryz.f181, [], [.int .i64], false, false, false, []⟩
/-- internal/bytealg.IndexRabinKarp[string] -/
noncomputable def fi182 : FI := ⟨Go.Proofs.Tryz.f182, [(5, [0, 1, 5, 6, 7, 8, 9], []), (11, [0, 1, 5, 6, 7, 8, 10], [])], [.int .i64], false, false, false, []⟩
/-- unicode/utf8.ValidRune -/
noncomputable def fi183 : FI := ⟨Go.Proofs.Tryz.f183, [], [.bool], false, false, false, []⟩
/-- internal/strconv.log10Pow2 -/
noncomputable def fi184 : FI := ⟨Go.Proofs.Tryz.f184, [], [.int .i64], false, false, false, []⟩
/-- internal/strconv.bool2[int] -/
noncomputable def fi185 : FI := ⟨Go.Proofs.Tryz.f185, [], [.int .i64], false, false, false, []⟩
/-- internal/strconv.isPowerOfTwo -/
noncomputable def fi186 : FI := ⟨Go.Proofs.Tryz.f186, [], [.bool], false, false, false, []⟩
/-- math/bits.TrailingZeros -/
noncomputable def fi187 : FI := ⟨Go.Proofs.Tryz.f187, [], [.int .i64], false, false, false, []⟩
/-- slices.order2CmpFunc[loop.example/g00172/impl.Entry] -/
noncomputable def fi188 : FI := ⟨Go.Proofs.Tryz.f188, [], [.int .i64, .int .i64], false, false, false, []⟩
/-- internal/bytealg.hashStr[string] -/
noncomputable def fi189 : FI := ⟨Go.Proofs.Tryz.f189, [(3, [0, 4, 5], []), (8, [4, 6, 7, 8], [])], [.int .u32, .int .u32], false, false, false, []⟩
/-- math/bits.TrailingZeros32 -/
noncomputable def fi190 : FI := ⟨Go.Proofs.Tryz.f190, [], [.int .i64], false, false, false, []⟩
/-- math/bits.TrailingZeros64 -/
noncomputable def fi191 : FI := ⟨Go.Proofs.Tryz.f191, [], [.int .i64], false, false, false, []⟩
/-- gosem.cut.vars -/
noncomputable def fi216 : FI := ⟨Go.Proofs.Tryz.f216, [], [], false, false, false, []⟩
noncomputable def fiT : Tr FI := (.node 93 fi93 (.node 48 fi48 (.node 25 fi25 (.node 14 fi14 (.node 8 fi8 (.node 5 fi5 (.node 4 fi4 (.node 3 fi3 .leaf .leaf) .leaf) (.node 7 fi7 (.node 6 fi6 .leaf .leaf) .leaf)) (.node 11 fi11 (.node 10 fi10 (.node 9 fi9 .leaf .leaf) .leaf) (.node 13 fi13 (.node 12 fi12 .leaf .leaf) .leaf))) (.node 20 fi20 (.node 17 fi17 (.node 16 fi16 (.node 15 fi15 .leaf .leaf) .leaf) (.node 19 fi19 (.node 18 fi18 .leaf .leaf) .leaf)) (.node 23 fi23 (.node 22 fi22 (.node 21 fi21 .leaf .leaf) .leaf) (.node 24 fi24 .leaf .leaf)))) (.node 37 fi37 (.node 31 fi31 (.node 28 fi28 (.node 27 fi27 (.node 26 fi26 .leaf .leaf) .leaf) (.node 30 fi30 (.node 29 fi29 .leaf .leaf) .leaf)) (.node 35 fi35 (.node 34 fi34 (.node 32 fi32 .leaf .leaf) .leaf) (.node 36 fi36 .leaf .leaf))) (.node 43 fi43 (.node 40 fi40 (.node 39 fi39 (.node 38 fi38 .leaf .leaf) .leaf) (.node 42 fi42 (.node 41 fi41 .leaf .leaf) .leaf)) (.node 46 fi46 (.node 45 fi45 (.node 44 fi44 .leaf .leaf) .leaf) (.node 47 fi47 .leaf .leaf))))) (.node 70 fi70 (.node 59 fi59 (.node 54 fi54 (.node 51 fi51 (.node 50 fi50 (.node 49 fi49 .leaf .leaf) .leaf) (.node 53 fi53 (.node 52 fi52 .leaf .leaf) .leaf)) (.node 57 fi57 (.node 56 fi56 (.node 55 fi55 .leaf .leaf) .leaf) (.node 58 fi58 .leaf .leaf))) (.node 65 fi65 (.node 62 fi62 (.node 61 fi61 (.node 60 fi60 .leaf .leaf) .leaf) (.node 64 fi64 (.node 63 fi63 .leaf .leaf) .leaf)) (.node 68 fi68 (.node 67 fi67 (.node 66 fi66 .leaf .leaf) .leaf) (.node 69 fi69 .leaf .leaf)))) (.node 81 fi81 (.node 76 fi76 (.node 73 fi73 (.node 72 fi72 (.node 71 fi71 .leaf .leaf) .leaf) (.node 75 fi75 (.node 74 fi74 .leaf .leaf) .leaf)) (.node 79 fi79 (.node 78 fi78 (.node 77 fi77 .leaf .leaf) .leaf) (.node 80 fi80 .leaf .leaf))) (.node 88 fi88 (.node 85 fi85 (.node 84 fi84 (.node 82 fi82 .leaf .leaf) .leaf) (.node 87 fi87 (.node 86 fi86 .leaf .leaf) .leaf)) (.node 91 fi91 (.node 90 fi90 (.node 89 fi89 .leaf .leaf) .leaf) (.node 92 fi92 .leaf .leaf)))))) (.node 145 fi145 (.node 119 fi119 (.node 107 fi107 (.node 99 fi99 (.node 96 fi96 (.node 95 fi95 (.node 94 fi94 .leaf .leaf) .leaf) (.node 98 fi98 (.node 97 fi97 .leaf .leaf) .leaf)) (.node 104 fi104 (.node 103 fi103 (.node 100 fi100 .leaf .leaf) .leaf) (.node 106 fi106 (.node 105 fi105 .leaf .leaf) .leaf))) (.node 113 fi113 (.node 110 fi110 (.node 109 fi109 (.node 108 fi108 .leaf .leaf) .leaf) (.node 112 fi112 (.node 111 fi111 .leaf .leaf) .leaf)) (.node 117 fi117 (.node 115 fi115 (.node 114 fi114 .leaf .leaf) .leaf) (.node 118 fi118 .leaf .leaf)))) (.node 132 fi132 (.node 125 fi125 (.node 122 fi122 (.node 121 fi121 (.node 120 fi120 .leaf .leaf) .leaf) (.node 124 fi124 (.node 123 fi123 .leaf .leaf) .leaf)) (.node 129 fi129 (.node 128 fi128 (.node 126 fi126 .leaf .leaf) .leaf) (.node 131 fi131 .leaf .leaf))) (.node 138 fi138 (.node 135 fi135 (.node 134 fi134 (.node 133 fi133 .leaf .leaf) .leaf) (.node 137 fi137 (.node 136 fi136 .leaf .leaf) .leaf)) (.node 141 fi141 (.node 140 fi140 (.node 139 fi139 .leaf .leaf) .leaf) (.node 144 fi144 .leaf .leaf))))) (.node 169 fi169 (.node 156 fi156 (.node 151 fi151 (.node 148 fi148 (.node 147 fi147 (.node 146 fi146 .leaf .leaf) .leaf) (.node 150 fi150 (.node 149 fi149 .leaf .leaf) .leaf)) (.node 154 fi154 (.node 153 fi153 (.node 152 fi152 .leaf .leaf) .leaf) (.node 155 fi155 .leaf .leaf))) (.node 163 fi163 (.node 159 fi159 (.node 158 fi158 (.node 157 fi157 .leaf .leaf) .leaf) (.node 161 fi161 (.node 160 fi160 .leaf .leaf) .leaf)) (.node 167 fi167 (.node 166 fi166 (.node 165 fi165 .leaf .leaf) .leaf) (.node 168 fi168 .leaf .leaf)))) (.node 182 fi182 (.node 175 fi175 (.node 172 fi172 (.node 171 fi171 (.node 170 fi170 .leaf .leaf) .leaf) (.node 174 fi174 (.node 173 fi173 .leaf .leaf) .leaf)) (.node 178 fi178 (.node 177 fi177 (.node 176 fi176 .leaf .leaf) .leaf) (.node 181 fi181 .leaf .leaf))) (.node 188 fi188 (.node 185 fi185 (.node 184 fi184 (.node 183 fi183 .leaf .leaf) .leaf) (.node 187 fi187 (.node 186 fi186 .leaf .leaf) .leaf)) (.node 191 fi191 (.node 190 fi190 (.node 189 fi189 .leaf .leaf) .leaf) (.node 216 fi216 .leaf .leaf)))))))
def orI (a b : Int) : Int := if a ≠ 0 then a else b
/-- the order of entries -/
def cf_Entry (x y : T_Entry.den) : Int := orI (Go.Lib.compareBytes x.1.data.toList y.1.data.toList) (if x.2.1 < y.2.1 then -1 else if y.2.1 < x.2.1 then 1 else 0)
/-- the tables that the contracts want -/
noncomputable def tabs (k : Nat) : Option (Array Value) := match Nat.beq k 3 with
  | true => some (Go.Lib.pow10Tab.map fun z => Value.int .u64 z).toArray
  | false => match Nat.beq k 5 with
  | true => some ((Go.Lib.deBruijn64tab.map fun z : Nat => (z : Int)).map fun z => Value.int .u8 z).toArray
  | false => none
/-- xtOf, for the tables -/
def xtF (l : List (Nat × XT)) (f : Nat) : Option XT := match l with
  | [] => none
  | (k, x) :: r => match Nat.beq k f with
    | true => some x
    | false => xtF r f
def xtL : List (Nat × XT) := [(162, .compare), (164, .count), (179, .indexByte), (101, .insert (.st (.pair .str (.pair (.int .i64) (.pair (.int .i64) (.pair .str .unit)))))), (102, .sort T_Entry 66 cf_Entry), (33, .join), (116, .chk 94), (83, .lib .trim), (127, .lib .fmtInt)]
noncomputable def env : Env := { fi := fiT.find, xt := xtF xtL, ti := fun t => (tiT.find t).getD ⟨.other, false, 1000000000, 0, .unit, [], []⟩, glob := fun _ => none, tab := tabs }
end Go.Proofs.YthooeghlplhlnaaGreatDoor.Ev
