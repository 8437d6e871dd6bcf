/- The tables of this seat for the evaluator: printed by mkenv.py, a program of mine, out of the translation. -/
import Derived.Test.YtjklgmflillagaaDoorEv0
import Derived.Test.YtjklgmflillagaaDoorProg
namespace Go.Proofs.YtjklgmflillagaaDoor.Ev
open Go

abbrev noS : ByteArray := ⟨#[]⟩
abbrev T_boundsError : Ty := (.st (.pair (.int .i64) (.pair (.int .i64) (.pair .bool (.pair (.int .u8) .unit)))))
abbrev T_errorAddressString : Ty := (.st (.pair .str (.pair (.int .u64) .unit)))
abbrev T_TextResult : Ty := (.st (.pair (.int .i64) (.pair .str .unit)))
abbrev T_RulesResult : Ty := (.st (.pair (.int .i64) (.pair (.sl (.st (.pair .str (.pair .str .unit)))) .unit)))
abbrev T_Rule : Ty := (.st (.pair .str (.pair .str .unit)))
abbrev T_MergeResult : Ty := (.st (.pair (.int .i64) (.pair (.int .i64) (.pair .str .unit))))
abbrev T_Chunk : Ty := (.st (.pair (.int .i64) (.pair (.sl .str) (.pair (.sl .str) (.pair (.sl .str) .unit)))))
abbrev T_Object : Ty := (.st (.pair .str (.pair (.int .i64) (.pair .str .unit))))
abbrev T_l1Src : Ty := (.st (.pair (.sl (.int .u8)) (.pair (.int .i64) .unit)))
abbrev T_acceptRange : Ty := (.st (.pair (.int .u8) (.pair (.int .u8) .unit)))
def ty2 : TI := ⟨.int .i64, false, 1, 8, .int .i64, [], [.int .i64 0]⟩
def ty3 : TI := ⟨.int .i64, false, 1, 8, .int .i64, [], [.int .i64 0]⟩
def ty4 : TI := ⟨.bool, false, 1, 1, .bool, [], [.bool false]⟩
def ty5 : TI := ⟨.int .u8, false, 1, 1, .int .u8, [], [.int .u8 0]⟩
def ty6 : TI := ⟨.int .u8, false, 1, 1, .int .u8, [], [.int .u8 0]⟩
def ty7 : TI := ⟨.struct, true, 4, 24, (.st (.pair (.int .i64) (.pair (.int .i64) (.pair .bool (.pair (.int .u8) .unit))))), [(0, 1, false), (1, 1, false), (2, 1, false), (3, 1, false)], [.int .i64 0, .int .i64 0, .bool false, .int .u8 0]⟩
def ty9 : TI := ⟨.str, false, 1, 16, .str, [], [.str ⟨#[]⟩]⟩
def ty12 : TI := ⟨.int .u64, false, 1, 8, .int .u64, [], [.int .u64 0]⟩
def ty13 : TI := ⟨.struct, true, 2, 24, (.st (.pair .str (.pair (.int .u64) .unit))), [(0, 1, false), (1, 1, false)], [.str ⟨#[]⟩, .int .u64 0]⟩
def ty15 : TI := ⟨.ptr 207, false, 1, 8, .unit, [], [.raw (.pointer none)]⟩
def ty16 : TI := ⟨.ptr 210, false, 1, 8, .unit, [], [.raw (.pointer none)]⟩
def ty17 : TI := ⟨.ptr 217, false, 1, 8, .unit, [], [.raw (.pointer none)]⟩
def ty18 : TI := ⟨.struct, true, 1, 8, .unit, [(0, 1, false)], [.raw (.pointer none)]⟩
def ty19 : TI := ⟨.struct, true, 1, 8, .unit, [(0, 1, false)], [.raw (.pointer none)]⟩
def ty21 : TI := ⟨.int .i32, false, 1, 4, .int .i32, [], [.int .i32 0]⟩
def ty22 : TI := ⟨.slice 68, false, 1, 24, (.sl (.st (.pair .str (.pair .str .unit)))), [], [.emp]⟩
def ty25 : TI := ⟨.slice 47, false, 1, 24, (.sl (.st (.pair .str (.pair .str .unit)))), [], [.emp]⟩
def ty29 : TI := ⟨.struct, true, 2, 24, (.st (.pair (.int .i64) (.pair .str .unit))), [(0, 1, false), (1, 1, false)], [.int .i64 0, .str ⟨#[]⟩]⟩
def ty30 : TI := ⟨.struct, true, 2, 24, (.st (.pair (.int .i64) (.pair .str .unit))), [(0, 1, false), (1, 1, false)], [.int .i64 0, .str ⟨#[]⟩]⟩
def ty34 : TI := ⟨.struct, true, 2, 32, (.st (.pair (.int .i64) (.pair (.sl (.st (.pair .str (.pair .str .unit)))) .unit))), [(0, 1, false), (1, 1, false)], [.int .i64 0, .emp]⟩
def ty35 : TI := ⟨.struct, true, 2, 32, (.st (.pair (.int .i64) (.pair (.sl (.st (.pair .str (.pair .str .unit)))) .unit))), [(0, 1, false), (1, 1, false)], [.int .i64 0, .emp]⟩
def ty42 : TI := ⟨.slice 5, false, 1, 24, (.sl (.int .u8)), [], [.emp]⟩
def ty46 : TI := ⟨.struct, true, 2, 32, (.st (.pair .str (.pair .str .unit))), [(0, 1, false), (1, 1, false)], [.str ⟨#[]⟩, .str ⟨#[]⟩]⟩
def ty47 : TI := ⟨.struct, true, 2, 32, (.st (.pair .str (.pair .str .unit))), [(0, 1, false), (1, 1, false)], [.str ⟨#[]⟩, .str ⟨#[]⟩]⟩
def ty52 : TI := ⟨.struct, true, 3, 32, (.st (.pair (.int .i64) (.pair (.int .i64) (.pair .str .unit)))), [(0, 1, false), (1, 1, false), (2, 1, false)], [.int .i64 0, .int .i64 0, .str ⟨#[]⟩]⟩
def ty53 : TI := ⟨.struct, true, 3, 32, (.st (.pair (.int .i64) (.pair (.int .i64) (.pair .str .unit)))), [(0, 1, false), (1, 1, false), (2, 1, false)], [.int .i64 0, .int .i64 0, .str ⟨#[]⟩]⟩
def ty55 : TI := ⟨.slice 109, false, 1, 24, (.sl (.st (.pair .str (.pair (.int .i64) (.pair .str .unit))))), [], [.emp]⟩
def ty56 : TI := ⟨.slice 112, false, 1, 24, (.sl (.st (.pair .str (.pair (.int .i64) (.pair .str .unit))))), [], [.emp]⟩
def ty60 : TI := ⟨.slice 114, false, 1, 24, (.sl (.st (.pair .str (.pair (.int .i64) (.pair .str .unit))))), [], [.emp]⟩
def ty62 : TI := ⟨.slice 116, false, 1, 24, (.sl (.st (.pair .str (.pair (.int .i64) (.pair .str .unit))))), [], [.emp]⟩
def ty68 : TI := ⟨.struct, true, 2, 32, (.st (.pair .str (.pair .str .unit))), [(0, 1, false), (1, 1, false)], [.str ⟨#[]⟩, .str ⟨#[]⟩]⟩
def ty83 : TI := ⟨.ptr 126, false, 1, 8, .unit, [], [.raw (.pointer none)]⟩
def ty91 : TI := ⟨.ptr 93, false, 1, 8, .unit, [], [.raw (.pointer none)]⟩
def ty92 : TI := ⟨.struct, true, 2, 32, .unit, [(0, 1, false), (1, 1, false)], [.raw (.pointer none), .emp]⟩
def ty93 : TI := ⟨.struct, true, 2, 32, .unit, [(0, 1, false), (1, 1, false)], [.raw (.pointer none), .emp]⟩
def ty94 : TI := ⟨.slice 99, false, 1, 24, (.sl (.st (.pair (.int .i64) (.pair (.sl .str) (.pair (.sl .str) (.pair (.sl .str) .unit)))))), [], [.emp]⟩
def ty96 : TI := ⟨.slice 9, false, 1, 24, (.sl .str), [], [.emp]⟩
def ty98 : TI := ⟨.struct, true, 4, 80, (.st (.pair (.int .i64) (.pair (.sl .str) (.pair (.sl .str) (.pair (.sl .str) .unit))))), [(0, 1, false), (1, 1, false), (2, 1, false), (3, 1, false)], [.int .i64 0, .emp, .emp, .emp]⟩
def ty99 : TI := ⟨.struct, true, 4, 80, (.st (.pair (.int .i64) (.pair (.sl .str) (.pair (.sl .str) (.pair (.sl .str) .unit))))), [(0, 1, false), (1, 1, false), (2, 1, false), (3, 1, false)], [.int .i64 0, .emp, .emp, .emp]⟩
def ty102 : TI := ⟨.other, false, 1, 16, .unit, [], [.raw .nilIface]⟩
def ty108 : TI := ⟨.struct, true, 3, 40, (.st (.pair .str (.pair (.int .i64) (.pair .str .unit)))), [(0, 1, false), (1, 1, false), (2, 1, false)], [.str ⟨#[]⟩, .int .i64 0, .str ⟨#[]⟩]⟩
def ty109 : TI := ⟨.struct, true, 3, 40, (.st (.pair .str (.pair (.int .i64) (.pair .str .unit)))), [(0, 1, false), (1, 1, false), (2, 1, false)], [.str ⟨#[]⟩, .int .i64 0, .str ⟨#[]⟩]⟩
def ty111 : TI := ⟨.struct, true, 3, 40, (.st (.pair .str (.pair (.int .i64) (.pair .str .unit)))), [(0, 1, false), (1, 1, false), (2, 1, false)], [.str ⟨#[]⟩, .int .i64 0, .str ⟨#[]⟩]⟩
def ty112 : TI := ⟨.struct, true, 3, 40, (.st (.pair .str (.pair (.int .i64) (.pair .str .unit)))), [(0, 1, false), (1, 1, false), (2, 1, false)], [.str ⟨#[]⟩, .int .i64 0, .str ⟨#[]⟩]⟩
def ty114 : TI := ⟨.struct, true, 3, 40, (.st (.pair .str (.pair (.int .i64) (.pair .str .unit)))), [(0, 1, false), (1, 1, false), (2, 1, false)], [.str ⟨#[]⟩, .int .i64 0, .str ⟨#[]⟩]⟩
def ty116 : TI := ⟨.struct, true, 3, 40, (.st (.pair .str (.pair (.int .i64) (.pair .str .unit)))), [(0, 1, false), (1, 1, false), (2, 1, false)], [.str ⟨#[]⟩, .int .i64 0, .str ⟨#[]⟩]⟩
def ty120 : TI := ⟨.slice 2, false, 1, 24, (.sl (.int .i64)), [], [.emp]⟩
def ty125 : TI := ⟨.struct, true, 2, 32, (.st (.pair (.sl (.int .u8)) (.pair (.int .i64) .unit))), [(0, 1, false), (1, 1, false)], [.emp, .int .i64 0]⟩
def ty126 : TI := ⟨.struct, true, 2, 32, (.st (.pair (.sl (.int .u8)) (.pair (.int .i64) .unit))), [(0, 1, false), (1, 1, false)], [.emp, .int .i64 0]⟩
def ty138 : TI := ⟨.ptr 5, false, 1, 8, .unit, [], [.raw (.pointer none)]⟩
def ty146 : TI := ⟨.int .u64, false, 1, 8, .int .u64, [], [.int .u64 0]⟩
def ty155 : TI := ⟨.other, false, 1, 8, .unit, [], [.raw (.pointer none)]⟩
def ty163 : TI := ⟨.slice 120, false, 1, 24, (.sl (.sl (.int .i64))), [], [.emp]⟩
def ty180 : TI := ⟨.array 24 5, true, 24, 24, .unit, [], [.top]⟩
def ty181 : TI := ⟨.int .u64, false, 1, 8, .int .u64, [], [.int .u64 0]⟩
def ty186 : TI := ⟨.int .u32, false, 1, 4, .int .u32, [], [.int .u32 0]⟩
def ty194 : TI := ⟨.array 20 181, true, 20, 160, .unit, [], [.top]⟩
def ty195 : TI := ⟨.array 65 5, true, 65, 65, .unit, [], [.top]⟩
def ty198 : TI := ⟨.array 256 5, true, 256, 256, .unit, [], [.top]⟩
def ty199 : TI := ⟨.struct, true, 2, 2, (.st (.pair (.int .u8) (.pair (.int .u8) .unit))), [(0, 1, false), (1, 1, false)], [.int .u8 0, .int .u8 0]⟩
def ty200 : TI := ⟨.struct, true, 2, 2, (.st (.pair (.int .u8) (.pair (.int .u8) .unit))), [(0, 1, false), (1, 1, false)], [.int .u8 0, .int .u8 0]⟩
def ty201 : TI := ⟨.array 16 200, true, 32, 32, .unit, [], [.int .u8 0, .int .u8 0, .int .u8 0, .int .u8 0, .int .u8 0, .int .u8 0, .int .u8 0, .int .u8 0, .int .u8 0, .int .u8 0, .int .u8 0, .int .u8 0, .int .u8 0, .int .u8 0, .int .u8 0, .int .u8 0, .int .u8 0, .int .u8 0, .int .u8 0, .int .u8 0, .int .u8 0, .int .u8 0, .int .u8 0, .int .u8 0, .int .u8 0, .int .u8 0, .int .u8 0, .int .u8 0, .int .u8 0, .int .u8 0, .int .u8 0, .int .u8 0]⟩
def ty204 : TI := ⟨.array 32 5, true, 32, 32, .unit, [], [.top]⟩
def ty205 : TI := ⟨.array 64 5, true, 64, 64, .unit, [], [.top]⟩
def ty206 : TI := ⟨.struct, true, 4, 40, .unit, [(0, 1, false), (1, 1, false), (2, 1, false), (3, 1, false)], [.raw (.pointer none), .raw (.pointer none), .raw (.pointer none), .str ⟨#[]⟩]⟩
def ty208 : TI := ⟨.other, true, 0, 0, .unit, [], []⟩
def ty209 : TI := ⟨.struct, true, 0, 0, .unit, [(0, 0, true)], []⟩
def ty211 : TI := ⟨.int .u8, false, 1, 1, .int .u8, [], [.int .u8 0]⟩
def ty212 : TI := ⟨.int .u8, false, 1, 1, .int .u8, [], [.int .u8 0]⟩
def ty214 : TI := ⟨.int .i32, false, 1, 4, .int .i32, [], [.int .i32 0]⟩
def ty215 : TI := ⟨.int .i32, false, 1, 4, .int .i32, [], [.int .i32 0]⟩
def ty216 : TI := ⟨.struct, true, 11, 48, .unit, [(0, 1, false), (1, 1, false), (2, 1, false), (3, 1, false), (4, 1, false), (5, 1, false), (6, 1, false), (7, 1, false), (8, 1, false), (9, 1, false), (10, 1, false)], [.int .u64 0, .int .u64 0, .int .u32 0, .int .u8 0, .int .u8 0, .int .u8 0, .int .u8 0, .raw .nilFunc, .raw (.pointer none), .int .i32 0, .int .i32 0]⟩
def ty217 : TI := ⟨.struct, true, 11, 48, .unit, [(0, 1, false), (1, 1, false), (2, 1, false), (3, 1, false), (4, 1, false), (5, 1, false), (6, 1, false), (7, 1, false), (8, 1, false), (9, 1, false), (10, 1, false)], [.int .u64 0, .int .u64 0, .int .u32 0, .int .u8 0, .int .u8 0, .int .u8 0, .int .u8 0, .raw .nilFunc, .raw (.pointer none), .int .i32 0, .int .i32 0]⟩
def tiT : Tr TI := (.node 96 ty96 (.node 30 ty30 (.node 15 ty15 (.node 6 ty6 (.node 4 ty4 (.node 3 ty3 (.node 2 ty2 .leaf .leaf) .leaf) (.node 5 ty5 .leaf .leaf)) (.node 12 ty12 (.node 9 ty9 (.node 7 ty7 .leaf .leaf) .leaf) (.node 13 ty13 .leaf .leaf))) (.node 21 ty21 (.node 18 ty18 (.node 17 ty17 (.node 16 ty16 .leaf .leaf) .leaf) (.node 19 ty19 .leaf .leaf)) (.node 25 ty25 (.node 22 ty22 .leaf .leaf) (.node 29 ty29 .leaf .leaf)))) (.node 56 ty56 (.node 47 ty47 (.node 42 ty42 (.node 35 ty35 (.node 34 ty34 .leaf .leaf) .leaf) (.node 46 ty46 .leaf .leaf)) (.node 53 ty53 (.node 52 ty52 .leaf .leaf) (.node 55 ty55 .leaf .leaf))) (.node 91 ty91 (.node 68 ty68 (.node 62 ty62 (.node 60 ty60 .leaf .leaf) .leaf) (.node 83 ty83 .leaf .leaf)) (.node 93 ty93 (.node 92 ty92 .leaf .leaf) (.node 94 ty94 .leaf .leaf))))) (.node 186 ty186 (.node 120 ty120 (.node 109 ty109 (.node 102 ty102 (.node 99 ty99 (.node 98 ty98 .leaf .leaf) .leaf) (.node 108 ty108 .leaf .leaf)) (.node 114 ty114 (.node 112 ty112 (.node 111 ty111 .leaf .leaf) .leaf) (.node 116 ty116 .leaf .leaf))) (.node 155 ty155 (.node 138 ty138 (.node 126 ty126 (.node 125 ty125 .leaf .leaf) .leaf) (.node 146 ty146 .leaf .leaf)) (.node 180 ty180 (.node 163 ty163 .leaf .leaf) (.node 181 ty181 .leaf .leaf)))) (.node 206 ty206 (.node 200 ty200 (.node 198 ty198 (.node 195 ty195 (.node 194 ty194 .leaf .leaf) .leaf) (.node 199 ty199 .leaf .leaf)) (.node 204 ty204 (.node 201 ty201 .leaf .leaf) (.node 205 ty205 .leaf .leaf))) (.node 214 ty214 (.node 211 ty211 (.node 209 ty209 (.node 208 ty208 .leaf .leaf) .leaf) (.node 212 ty212 .leaf .leaf)) (.node 216 ty216 (.node 215 ty215 .leaf .leaf) (.node 217 ty217 .leaf .leaf))))))
/-- loop.example/g00172/laws.FnExactRulesFault -/
noncomputable def fi3 : FI := ⟨Go.Proofs.Tryd.f3, [], [.bool], false, false, false, []⟩
/-- loop.example/g00172/laws.FnExactFindRule -/
noncomputable def fi4 : FI := ⟨Go.Proofs.Tryd.f4, [], [.bool], false, false, false, []⟩
/-- loop.example/g00172/laws.FnExactForgetRule -/
noncomputable def fi5 : FI := ⟨Go.Proofs.Tryd.f5, [], [.bool], false, false, false, []⟩
/-- loop.example/g00172/laws.FnExactLearnRule -/
noncomputable def fi6 : FI := ⟨Go.Proofs.Tryd.f6, [], [.bool], false, false, false, []⟩
/-- loop.example/g00172/laws.FnRules -/
noncomputable def fi7 : FI := ⟨Go.Proofs.Tryd.f7, [(12, [3, 4, 6, 8, 9], [])], [.bool], false, false, false, []⟩
/-- loop.example/g00172/laws.FnExactNormalText -/
noncomputable def fi8 : FI := ⟨Go.Proofs.Tryd.f8, [], [.bool], false, false, false, []⟩
/-- loop.example/g00172/laws.FnNormals -/
noncomputable def fi9 : FI := ⟨Go.Proofs.Tryd.f9, [], [.bool], false, false, false, []⟩
/-- loop.example/g00172/laws.FnExactHasBlobs -/
noncomputable def fi10 : FI := ⟨Go.Proofs.Tryd.f10, [], [.bool], false, false, false, []⟩
/-- loop.example/g00172/laws.szRuleS -/
noncomputable def fi11 : FI := ⟨Go.Proofs.Tryd.f11, [(5, [0, 1, 5], [])], [.int .i64], false, false, false, []⟩
/-- loop.example/g00172/spec.RulesFault -/
noncomputable def fi12 : FI := ⟨Go.Proofs.Tryd.f12, [(4, [0, 3], [])], [.int .i64], false, false, false, []⟩
/-- loop.example/g00172/laws.toRuleS -/
noncomputable def fi13 : FI := ⟨Go.Proofs.Tryd.f13, [(3, [0, 3, 4], [])], [(.sl (.st (.pair .str (.pair .str .unit))))], true, false, false, []⟩
/-- loop.example/g00172/impl.RulesFault -/
noncomputable def fi14 : FI := ⟨Go.Proofs.Tryd.f14, [(4, [0, 9, 10, 11], [])], [.int .i64], false, false, false, []⟩
/-- loop.example/g00172/laws.eqRuleS -/
noncomputable def fi15 : FI := ⟨Go.Proofs.Tryd.f15, [(4, [0, 1, 5], [])], [.bool], false, false, false, []⟩
/-- loop.example/g00172/spec.FindRule -/
noncomputable def fi16 : FI := ⟨Go.Proofs.Tryd.f16, [], [(.st (.pair (.int .i64) (.pair .str .unit)))], false, false, false, []⟩
/-- loop.example/g00172/impl.FindRule -/
noncomputable def fi17 : FI := ⟨Go.Proofs.Tryd.f17, [], [(.st (.pair (.int .i64) (.pair .str .unit)))], false, false, false, []⟩
/-- loop.example/g00172/laws.eqTextResult -/
noncomputable def fi18 : FI := ⟨Go.Proofs.Tryd.f18, [], [.bool], false, false, false, []⟩
/-- loop.example/g00172/spec.ForgetRule -/
noncomputable def fi19 : FI := ⟨Go.Proofs.Tryd.f19, [], [(.st (.pair (.int .i64) (.pair (.sl (.st (.pair .str (.pair .str .unit)))) .unit)))], false, false, false, []⟩
/-- loop.example/g00172/impl.ForgetRule -/
noncomputable def fi20 : FI := ⟨Go.Proofs.Tryd.f20, [], [(.st (.pair (.int .i64) (.pair (.sl (.st (.pair .str (.pair .str .unit)))) .unit)))], true, false, false, []⟩
/-- loop.example/g00172/laws.eqRulesResult -/
noncomputable def fi21 : FI := ⟨Go.Proofs.Tryd.f21, [], [.bool], false, false, false, []⟩
/-- loop.example/g00172/laws.markRuleS -/
noncomputable def fi22 : FI := ⟨Go.Proofs.Tryd.f22, [(2, [0, 1, 5], [])], [.int .i64], true, false, true, [(.st (.pair .str (.pair .str .unit)))]⟩
/-- loop.example/g00172/laws.markRulesResult -/
noncomputable def fi23 : FI := ⟨Go.Proofs.Tryd.f23, [], [.int .i64], true, false, true, [(.st (.pair .str (.pair .str .unit)))]⟩
/-- loop.example/g00172/laws.heldRulesResult -/
noncomputable def fi24 : FI := ⟨Go.Proofs.Tryd.f24, [], [.int .i64], false, false, false, []⟩
/-- loop.example/g00172/spec.LearnRule -/
noncomputable def fi25 : FI := ⟨Go.Proofs.Tryd.f25, [(17, [1, 2, 6, 9, 11], [])], [(.st (.pair (.int .i64) (.pair (.sl (.st (.pair .str (.pair .str .unit)))) .unit)))], false, false, false, []⟩
/-- loop.example/g00172/impl.LearnRule -/
noncomputable def fi26 : FI := ⟨Go.Proofs.Tryd.f26, [], [(.st (.pair (.int .i64) (.pair (.sl (.st (.pair .str (.pair .str .unit)))) .unit)))], true, false, false, []⟩
/-- loop.example/g00172/laws.lwBig -/
noncomputable def fi27 : FI := ⟨Go.Proofs.Tryd.f27, [], [.bool], false, false, false, []⟩
/-- loop.example/g00172/spec.DrawLearnRule -/
noncomputable def fi28 : FI := ⟨Go.Proofs.Tryd.f28, [(9, [5, 6, 7, 8], [])], [(.sl (.st (.pair .str (.pair .str .unit)))), .str, .str], false, false, false, []⟩
/-- loop.example/g00172/spec.NormalText -/
noncomputable def fi29 : FI := ⟨Go.Proofs.Tryd.f29, [], [(.st (.pair (.int .i64) (.pair .str .unit)))], false, false, false, []⟩
/-- loop.example/g00172/impl.NormalText -/
noncomputable def fi30 : FI := ⟨Go.Proofs.Tryd.f30, [(6, [6, 8, 9, 34, 35, 36], [])], [(.st (.pair (.int .i64) (.pair .str .unit)))], false, false, false, []⟩
/-- loop.example/g00172/spec.DrawNormalText -/
noncomputable def fi31 : FI := ⟨Go.Proofs.Tryd.f31, [], [.str, .str, .str], false, false, false, []⟩
/-- loop.example/g00172/impl.MergeTexts -/
noncomputable def fi32 : FI := ⟨Go.Proofs.Tryd.f32, [], [(.st (.pair (.int .i64) (.pair (.int .i64) (.pair .str .unit))))], false, false, false, []⟩
/-- loop.example/g00172/laws.szObjectS -/
noncomputable def fi33 : FI := ⟨Go.Proofs.Tryd.f33, [(5, [0, 1, 5], [])], [.int .i64], false, false, false, []⟩
/-- loop.example/g00172/laws.szFileS -/
noncomputable def fi34 : FI := ⟨Go.Proofs.Tryd.f34, [(5, [0, 1, 5], [])], [.int .i64], false, false, false, []⟩
/-- loop.example/g00172/spec.HasBlobs -/
noncomputable def fi35 : FI := ⟨Go.Proofs.Tryd.f35, [], [.bool], false, false, false, []⟩
/-- loop.example/g00172/laws.toObjectS -/
noncomputable def fi36 : FI := ⟨Go.Proofs.Tryd.f36, [(3, [0, 3, 4], [])], [(.sl (.st (.pair .str (.pair (.int .i64) (.pair .str .unit)))))], true, false, false, []⟩
/-- loop.example/g00172/laws.toFileS -/
noncomputable def fi37 : FI := ⟨Go.Proofs.Tryd.f37, [(3, [0, 3, 4], [])], [(.sl (.st (.pair .str (.pair (.int .i64) (.pair .str .unit)))))], true, false, false, []⟩
/-- loop.example/g00172/impl.HasBlobs -/
noncomputable def fi38 : FI := ⟨Go.Proofs.Tryd.f38, [], [.bool], false, false, false, []⟩
/-- loop.example/g00172/laws.eqObjectS -/
noncomputable def fi39 : FI := ⟨Go.Proofs.Tryd.f39, [(4, [0, 1, 5], [])], [.bool], false, false, false, []⟩
/-- loop.example/g00172/laws.eqFileS -/
noncomputable def fi40 : FI := ⟨Go.Proofs.Tryd.f40, [(4, [0, 1, 5], [])], [.bool], false, false, false, []⟩
/-- loop.example/g00172/laws.szRule -/
noncomputable def fi41 : FI := ⟨Go.Proofs.Tryd.f41, [], [.int .i64], false, false, false, []⟩
/-- loop.example/g00172/spec.l13Pre -/
noncomputable def fi42 : FI := ⟨Go.Proofs.Tryd.f42, [], [.bool], false, false, false, []⟩
/-- loop.example/g00172/spec.TextFault -/
noncomputable def fi43 : FI := ⟨Go.Proofs.Tryd.f43, [], [.int .i64], false, false, false, []⟩
/-- loop.example/g00172/laws.toRule -/
noncomputable def fi44 : FI := ⟨Go.Proofs.Tryd.f44, [], [(.st (.pair .str (.pair .str .unit)))], true, false, false, []⟩
/-- loop.example/g00172/impl.firstCode -/
noncomputable def fi45 : FI := ⟨Go.Proofs.Tryd.f45, [(2, [5, 6, 7], [])], [.int .i64], false, false, false, []⟩
/-- loop.example/g00172/impl.codeIf -/
noncomputable def fi46 : FI := ⟨Go.Proofs.Tryd.f46, [], [.int .i64], false, false, false, []⟩
/-- loop.example/g00172/impl.isPre -/
noncomputable def fi47 : FI := ⟨Go.Proofs.Tryd.f47, [], [.bool], false, false, false, []⟩
/-- loop.example/g00172/impl.TextFault -/
noncomputable def fi48 : FI := ⟨Go.Proofs.Tryd.f48, [], [.int .i64], false, false, false, []⟩
/-- loop.example/g00172/laws.eqRule -/
noncomputable def fi49 : FI := ⟨Go.Proofs.Tryd.f49, [], [.bool], false, false, false, []⟩
/-- loop.example/g00172/spec.l13Find -/
noncomputable def fi50 : FI := ⟨Go.Proofs.Tryd.f50, [(2, [0, 1, 5], [])], [.int .i64], false, false, false, []⟩
/-- loop.example/g00172/impl.ruleAt -/
noncomputable def fi51 : FI := ⟨Go.Proofs.Tryd.f51, [], [.int .i64, .bool], false, false, false, []⟩
/-- slices.Delete[[]loop.example/g00172/impl.Rule,loop.example/g00172/impl.Rule] -/
noncomputable def fi52 : FI := ⟨Go.Proofs.Tryd.f52, [], [(.sl (.st (.pair .str (.pair .str .unit))))], true, false, true, []⟩
/-- slices.Clone[[]loop.example/g00172/impl.Rule,loop.example/g00172/impl.Rule] -/
noncomputable def fi53 : FI := ⟨Go.Proofs.Tryd.f53, [], [(.sl (.st (.pair .str (.pair .str .unit))))], true, false, false, []⟩
/-- loop.example/g00172/laws.markText -/
noncomputable def fi54 : FI := ⟨Go.Proofs.Tryd.f54, [(4, [0, 3], [])], [.str], false, false, false, []⟩
/-- loop.example/g00172/laws.heldRuleS -/
noncomputable def fi55 : FI := ⟨Go.Proofs.Tryd.f55, [(2, [0, 1, 5], [])], [.int .i64], false, false, false, []⟩
/-- loop.example/g00172/impl.learn -/
noncomputable def fi56 : FI := ⟨Go.Proofs.Tryd.f56, [], [(.sl (.st (.pair .str (.pair .str .unit)))), .int .i64], true, false, false, []⟩
/-- loop.example/g00172/spec.l1Source -/
noncomputable def fi57 : FI := ⟨Go.Proofs.Tryd.f57, [], [.unit], false, false, false, []⟩
/-- loop.example/g00172/spec.l13Some -/
noncomputable def fi58 : FI := ⟨Go.Proofs.Tryd.f58, [], [.str], false, false, false, []⟩
/-- loop.example/g00172/spec.l13Rules -/
noncomputable def fi59 : FI := ⟨Go.Proofs.Tryd.f59, [(3, [0, 1, 5, 6], [])], [(.sl (.st (.pair .str (.pair .str .unit))))], false, false, false, []⟩
/-- loop.example/g00172/spec.l1Chance -/
noncomputable def fi60 : FI := ⟨Go.Proofs.Tryd.f60, [], [.bool], false, false, false, []⟩
/-- loop.example/g00172/spec.l1Text -/
noncomputable def fi61 : FI := ⟨Go.Proofs.Tryd.f61, [(10, [0, 3, 4], []), (6, [0, 3], [])], [.str], false, false, false, []⟩
/-- loop.example/g00172/spec.l4Texts -/
noncomputable def fi62 : FI := ⟨Go.Proofs.Tryd.f62, [], [.int .i64], false, false, false, []⟩
/-- loop.example/g00172/spec.l13Normal -/
noncomputable def fi63 : FI := ⟨Go.Proofs.Tryd.f63, [(5, [8, 9, 10, 11], [])], [.str, .bool], false, false, false, []⟩
/-- loop.example/g00172/impl.chunksOf -/
noncomputable def fi64 : FI := ⟨Go.Proofs.Tryd.f64, [(7, [0, 1, 2, 7, 8, 9, 10, 11, 12, 13, 14], []), (12, [0, 1, 2, 7, 8, 9, 10, 11, 12, 13, 14], [])], [(.sl (.st (.pair (.int .i64) (.pair (.sl .str) (.pair (.sl .str) (.pair (.sl .str) .unit))))))], false, false, false, []⟩
/-- loop.example/g00172/impl.linesOf -/
noncomputable def fi65 : FI := ⟨Go.Proofs.Tryd.f65, [], [(.sl .str)], false, false, false, []⟩
/-- strings.Join -/
noncomputable def fi66 : FI := ⟨Go.Proofs.Tryd.f66, [(12, [0, 1, 5, 39, 40, 41], []), (22, [1, 8, 63, 64, 65], [])], [.str], false, false, false, []⟩
/-- (*strings.Builder).WriteString -/
noncomputable def fi67 : FI := ⟨Go.Proofs.Tryd.f67, [], [.int .i64, .unit], false, false, false, []⟩
/-- loop.example/g00172/impl.size -/
noncomputable def fi68 : FI := ⟨Go.Proofs.Tryd.f68, [], [.str], false, false, false, []⟩
/-- (*strings.Builder).String -/
noncomputable def fi69 : FI := ⟨Go.Proofs.Tryd.f69, [], [.str], false, false, false, []⟩
/-- loop.example/g00172/spec.DrawMergeTexts -/
noncomputable def fi70 : FI := ⟨Go.Proofs.Tryd.f70, [], [.str, .str, .str], false, false, false, []⟩
/-- loop.example/g00172/impl.mergeTexts -/
noncomputable def fi71 : FI := ⟨Go.Proofs.Tryd.f71, [(3, [6, 7, 8, 20, 21, 22], [])], [(.st (.pair (.int .i64) (.pair (.int .i64) (.pair .str .unit))))], false, false, false, []⟩
/-- loop.example/g00172/laws.szObject -/
noncomputable def fi72 : FI := ⟨Go.Proofs.Tryd.f72, [], [.int .i64], false, false, false, []⟩
/-- loop.example/g00172/laws.szFile -/
noncomputable def fi73 : FI := ⟨Go.Proofs.Tryd.f73, [], [.int .i64], false, false, false, []⟩
/-- loop.example/g00172/spec.StoreFault -/
noncomputable def fi74 : FI := ⟨Go.Proofs.Tryd.f74, [(4, [0, 3], [])], [.int .i64], false, false, false, []⟩
/-- loop.example/g00172/spec.l11Blobs -/
noncomputable def fi75 : FI := ⟨Go.Proofs.Tryd.f75, [(2, [0, 1, 5], [])], [.bool], false, false, false, []⟩
/-- loop.example/g00172/laws.toObject -/
noncomputable def fi76 : FI := ⟨Go.Proofs.Tryd.f76, [], [(.st (.pair .str (.pair (.int .i64) (.pair .str .unit))))], true, false, false, []⟩
/-- loop.example/g00172/laws.toFile -/
noncomputable def fi77 : FI := ⟨Go.Proofs.Tryd.f77, [], [(.st (.pair .str (.pair (.int .i64) (.pair .str .unit))))], true, false, false, []⟩
/-- loop.example/g00172/impl.StoreFault -/
noncomputable def fi78 : FI := ⟨Go.Proofs.Tryd.f78, [(4, [0, 9, 10, 11], [])], [.int .i64], false, false, false, []⟩
/-- loop.example/g00172/impl.hasBlobs -/
noncomputable def fi79 : FI := ⟨Go.Proofs.Tryd.f79, [], [.bool], false, false, false, []⟩
/-- loop.example/g00172/laws.eqObject -/
noncomputable def fi80 : FI := ⟨Go.Proofs.Tryd.f80, [], [.bool], false, false, false, []⟩
/-- loop.example/g00172/laws.eqFile -/
noncomputable def fi81 : FI := ⟨Go.Proofs.Tryd.f81, [], [.bool], false, false, false, []⟩
/-- loop.example/g00172/spec.l1Split -/
noncomputable def fi82 : FI := ⟨Go.Proofs.Tryd.f82, [(4, [0, 3, 4, 5], [])], [(.sl .str)], false, false, false, []⟩
/-- slices.BinarySearchFunc[[]loop.example/g00172/impl.Rule,loop.example/g00172/impl.Rule,string] -/
noncomputable def fi83 : FI := ⟨Go.Proofs.Tryd.f83, [(3, [0, 1, 2, 8, 9, 10], [])], [.int .i64, .bool], false, false, false, []⟩
/-- loop.example/g00172/impl.ruleAt$1 -/
noncomputable def fi84 : FI := ⟨Go.Proofs.Tryd.f84, [], [.int .i64], false, false, false, []⟩
/-- strings.Compare -/
noncomputable def fi85 : FI := ⟨Go.Proofs.Tryd.f85, [], [.int .i64], false, false, false, []⟩
/-- loop.example/g00172/spec.l4Three -/
noncomputable def fi87 : FI := ⟨Go.Proofs.Tryd.f87, [], [(.sl .str), (.sl .str), (.sl .str)], false, false, false, []⟩
/-- loop.example/g00172/spec.l1Join -/
noncomputable def fi88 : FI := ⟨Go.Proofs.Tryd.f88, [(3, [0, 3, 4], [])], [.str], false, false, false, []⟩
/-- loop.example/g00172/spec.l1Next -/
noncomputable def fi89 : FI := ⟨Go.Proofs.Tryd.f89, [], [.int .i64], false, false, false, []⟩
/-- loop.example/g00172/spec.l1Word -/
noncomputable def fi90 : FI := ⟨Go.Proofs.Tryd.f90, [], [.str], false, false, false, []⟩
/-- loop.example/g00172/spec.l1Lines -/
noncomputable def fi91 : FI := ⟨Go.Proofs.Tryd.f91, [(2, [0, 1, 5], [])], [(.sl .str)], false, false, false, []⟩
/-- loop.example/g00172/spec.l4Chunks -/
noncomputable def fi92 : FI := ⟨Go.Proofs.Tryd.f92, [(8, [0, 1, 2, 7, 8, 9, 10, 11, 12, 13], []), (9, [0, 1, 2, 7, 8, 9, 10, 11, 12, 13, 14], []), (16, [0, 1, 2, 7, 8, 9, 10, 11, 12, 13, 15], [])], [(.sl (.st (.pair (.int .i64) (.pair (.sl .str) (.pair (.sl .str) (.pair (.sl .str) .unit))))))], false, false, false, []⟩
/-- loop.example/g00172/spec.l13Number -/
noncomputable def fi93 : FI := ⟨Go.Proofs.Tryd.f93, [], [.str], false, false, false, []⟩
/-- loop.example/g00172/impl.places -/
noncomputable def fi94 : FI := ⟨Go.Proofs.Tryd.f94, [(3, [0, 1, 5, 12, 13], []), (8, [5, 7, 25, 26, 27], [])], [(.sl (.int .i64))], false, false, false, []⟩
/-- loop.example/g00172/impl.chunksOf$1 -/
noncomputable def fi95 : FI := ⟨Go.Proofs.Tryd.f95, [], [], false, false, false, []⟩
/-- loop.example/g00172/impl.chunkOf -/
noncomputable def fi96 : FI := ⟨Go.Proofs.Tryd.f96, [], [(.st (.pair (.int .i64) (.pair (.sl .str) (.pair (.sl .str) (.pair (.sl .str) .unit)))))], false, false, false, []⟩
/-- strings.SplitAfter -/
noncomputable def fi97 : FI := ⟨Go.Proofs.Tryd.f97, [], [(.sl .str)], false, false, false, []⟩
/-- (*strings.Builder).Grow -/
noncomputable def fi98 : FI := ⟨Go.Proofs.Tryd.f98, [], [], false, false, false, []⟩
/-- (*strings.Builder).copyCheck -/
noncomputable def fi99 : FI := ⟨Go.Proofs.Tryd.f99, [], [], false, false, false, []⟩
/-- loop.example/g00172/impl.decimal -/
noncomputable def fi100 : FI := ⟨Go.Proofs.Tryd.f100, [], [.str], false, false, false, []⟩
/-- loop.example/g00172/impl.clashText -/
noncomputable def fi101 : FI := ⟨Go.Proofs.Tryd.f101, [], [.str], false, false, false, []⟩
/-- loop.example/g00172/impl.wholeLines -/
noncomputable def fi102 : FI := ⟨Go.Proofs.Tryd.f102, [(3, [3, 7, 8, 9], [])], [.str], false, false, false, []⟩
/-- loop.example/g00172/spec.IdOf -/
noncomputable def fi103 : FI := ⟨Go.Proofs.Tryd.f103, [], [(.st (.pair (.int .i64) (.pair .str .unit)))], false, false, false, []⟩
/-- loop.example/g00172/spec.l5Get -/
noncomputable def fi104 : FI := ⟨Go.Proofs.Tryd.f104, [], [.str, .bool], false, false, false, []⟩
/-- loop.example/g00172/impl.dataCode -/
noncomputable def fi105 : FI := ⟨Go.Proofs.Tryd.f105, [], [.int .i64], false, false, false, []⟩
/-- loop.example/g00172/impl.idOf -/
noncomputable def fi106 : FI := ⟨Go.Proofs.Tryd.f106, [], [.str], false, false, false, []⟩
/-- slices.ContainsFunc[[]loop.example/g00172/impl.File,loop.example/g00172/impl.File] -/
noncomputable def fi107 : FI := ⟨Go.Proofs.Tryd.f107, [], [.bool], false, false, false, []⟩
/-- loop.example/g00172/impl.hasBlobs$1 -/
noncomputable def fi108 : FI := ⟨Go.Proofs.Tryd.f108, [], [.bool], false, false, false, []⟩
/-- loop.example/g00172/impl.get -/
noncomputable def fi109 : FI := ⟨Go.Proofs.Tryd.f109, [], [.str, .bool], false, false, false, []⟩
/-- internal/bytealg.CompareString -/
noncomputable def fi110 : FI := ⟨Go.Proofs.Tryd.f110, [], [.int .i64], false, false, false, []⟩
/-- slices.rotateRight[loop.example/g00172/impl.Rule] -/
noncomputable def fi112 : FI := ⟨Go.Proofs.Tryd.f112, [], [], false, false, false, []⟩
/-- loop.example/g00172/spec.l1Near -/
noncomputable def fi113 : FI := ⟨Go.Proofs.Tryd.f113, [(3, [0, 5, 6], []), (18, [5, 9], [])], [(.sl .str)], false, false, false, []⟩
/-- loop.example/g00172/spec.l4Copy -/
noncomputable def fi114 : FI := ⟨Go.Proofs.Tryd.f114, [], [(.sl .str)], false, false, false, []⟩
/-- loop.example/g00172/spec.l4Partner -/
noncomputable def fi115 : FI := ⟨Go.Proofs.Tryd.f115, [(3, [0, 1, 5, 6], []), (8, [5, 7, 8, 9], [])], [(.sl (.int .i64))], false, false, false, []⟩
/-- loop.example/g00172/spec.l4Put -/
noncomputable def fi116 : FI := ⟨Go.Proofs.Tryd.f116, [], [(.sl (.st (.pair (.int .i64) (.pair (.sl .str) (.pair (.sl .str) (.pair (.sl .str) .unit))))))], false, false, false, []⟩
/-- loop.example/g00172/spec.l3Digits -/
noncomputable def fi117 : FI := ⟨Go.Proofs.Tryd.f117, [], [.str], false, false, false, []⟩
/-- loop.example/g00172/impl.match -/
noncomputable def fi118 : FI := ⟨Go.Proofs.Tryd.f118, [(4, [0, 1, 6, 7, 8, 9, 10], [])], [(.sl (.int .i64)), (.sl (.int .i64))], false, false, false, []⟩
/-- loop.example/g00172/impl.kindOf -/
noncomputable def fi119 : FI := ⟨Go.Proofs.Tryd.f119, [], [.int .i64], false, false, false, []⟩
/-- slices.Clone[[]string,string] -/
noncomputable def fi120 : FI := ⟨Go.Proofs.Tryd.f120, [], [(.sl .str)], true, false, false, []⟩
/-- strings.genSplit -/
noncomputable def fi121 : FI := ⟨Go.Proofs.Tryd.f121, [(11, [0, 1, 2, 3, 9, 10], [])], [(.sl .str)], false, false, false, []⟩
/-- (*strings.Builder).grow -/
noncomputable def fi122 : FI := ⟨Go.Proofs.Tryd.f122, [], [], false, false, false, []⟩
/-- strconv.FormatInt -/
noncomputable def fi124 : FI := ⟨Go.Proofs.Tryd.f124, [], [.str], false, false, false, []⟩
/-- loop.example/g00172/impl.whole -/
noncomputable def fi125 : FI := ⟨Go.Proofs.Tryd.f125, [], [.str], false, false, false, []⟩
/-- loop.example/g00172/spec.l5Kind -/
noncomputable def fi126 : FI := ⟨Go.Proofs.Tryd.f126, [], [.bool], false, false, false, []⟩
/-- loop.example/g00172/spec.l5Id -/
noncomputable def fi127 : FI := ⟨Go.Proofs.Tryd.f127, [(4, [0, 5, 6, 7], [])], [.str], false, false, false, []⟩
/-- loop.example/g00172/spec.l5Find -/
noncomputable def fi128 : FI := ⟨Go.Proofs.Tryd.f128, [(2, [0, 1, 5], [])], [.int .i64], false, false, false, []⟩
/-- loop.example/g00172/impl.isKind -/
noncomputable def fi129 : FI := ⟨Go.Proofs.Tryd.f129, [], [.bool], false, false, false, []⟩
/-- loop.example/g00172/impl.DigestOf -/
noncomputable def fi130 : FI := ⟨Go.Proofs.Tryd.f130, [(3, [0, 3, 6, 7], [])], [.int .i64], false, false, false, []⟩
/-- strings.Repeat -/
noncomputable def fi131 : FI := ⟨Go.Proofs.Tryd.f131, [(38, [7, 8, 9], [])], [.str], false, false, false, []⟩
/-- slices.IndexFunc[[]loop.example/g00172/impl.File,loop.example/g00172/impl.File] -/
noncomputable def fi132 : FI := ⟨Go.Proofs.Tryd.f132, [(2, [0, 1, 7, 8], [])], [.int .i64], false, false, false, []⟩
/-- loop.example/g00172/impl.find -/
noncomputable def fi133 : FI := ⟨Go.Proofs.Tryd.f133, [], [.int .i64, .bool], false, false, false, []⟩
/-- slices.rotateLeft[loop.example/g00172/impl.Rule] -/
noncomputable def fi135 : FI := ⟨Go.Proofs.Tryd.f135, [], [], false, false, false, []⟩
/-- loop.example/g00172/spec.l2Match -/
noncomputable def fi136 : FI := ⟨Go.Proofs.Tryd.f136, [(6, [0, 1, 6, 7, 8, 9, 10], [])], [(.sl (.int .i64)), (.sl (.int .i64))], false, false, false, []⟩
/-- loop.example/g00172/spec.l4Kind -/
noncomputable def fi137 : FI := ⟨Go.Proofs.Tryd.f137, [], [.int .i64], false, false, false, []⟩
/-- loop.example/g00172/impl.commons -/
noncomputable def fi138 : FI := ⟨Go.Proofs.Tryd.f138, [(3, [0, 1, 5, 14, 15], []), (8, [0, 1, 5, 7], []), (11, [0, 1, 5, 7, 8], [])], [(.sl (.sl (.int .i64)))], false, false, false, []⟩
/-- slices.Equal[[]string,string] -/
noncomputable def fi139 : FI := ⟨Go.Proofs.Tryd.f139, [(4, [0, 1, 12, 13], [])], [.bool], false, false, false, []⟩
/-- strings.explode -/
noncomputable def fi140 : FI := ⟨Go.Proofs.Tryd.f140, [(6, [0, 1, 6, 7], [])], [(.sl .str)], false, false, false, []⟩
/-- strings.Count -/
noncomputable def fi141 : FI := ⟨Go.Proofs.Tryd.f141, [(6, [0, 1, 5], [])], [.int .i64], false, false, false, []⟩
/-- strings.Index -/
noncomputable def fi142 : FI := ⟨Go.Proofs.Tryd.f142, [], [.int .i64], false, false, false, []⟩
/-- internal/strconv.FormatInt -/
noncomputable def fi144 : FI := ⟨Go.Proofs.Tryd.f144, [], [.str], false, false, false, []⟩
/-- loop.example/g00172/impl.isWhole -/
noncomputable def fi145 : FI := ⟨Go.Proofs.Tryd.f145, [], [.bool], false, false, false, []⟩
/-- loop.example/g00172/spec.l1In -/
noncomputable def fi146 : FI := ⟨Go.Proofs.Tryd.f146, [], [.bool], false, false, false, []⟩
/-- loop.example/g00172/spec.DigestOf -/
noncomputable def fi147 : FI := ⟨Go.Proofs.Tryd.f147, [(3, [0, 3, 4], [])], [.int .i64], false, false, false, []⟩
/-- loop.example/g00172/spec.l5Letter -/
noncomputable def fi148 : FI := ⟨Go.Proofs.Tryd.f148, [], [.str], false, false, false, []⟩
/-- loop.example/g00172/impl.within -/
noncomputable def fi149 : FI := ⟨Go.Proofs.Tryd.f149, [], [.bool], false, false, false, []⟩
/-- math/bits.Mul -/
noncomputable def fi150 : FI := ⟨Go.Proofs.Tryd.f150, [], [.int .u64, .int .u64], false, false, false, []⟩
/-- strings.HasPrefix -/
noncomputable def fi151 : FI := ⟨Go.Proofs.Tryd.f151, [], [.bool], false, false, false, []⟩
/-- (*strings.Builder).Len -/
noncomputable def fi152 : FI := ⟨Go.Proofs.Tryd.f152, [], [.int .i64], false, false, false, []⟩
/-- slices.BinarySearchFunc[[]loop.example/g00172/impl.Object,loop.example/g00172/impl.Object,string] -/
noncomputable def fi153 : FI := ⟨Go.Proofs.Tryd.f153, [(3, [0, 1, 2, 8, 9, 10], [])], [.int .i64, .bool], false, false, false, []⟩
/-- loop.example/g00172/impl.find$1 -/
noncomputable def fi154 : FI := ⟨Go.Proofs.Tryd.f154, [], [.int .i64], false, false, false, []⟩
/-- slices.Reverse[[]loop.example/g00172/impl.Rule,loop.example/g00172/impl.Rule] -/
noncomputable def fi155 : FI := ⟨Go.Proofs.Tryd.f155, [(1, [0, 2, 3], [])], [], false, false, false, []⟩
/-- loop.example/g00172/spec.l2Table -/
noncomputable def fi156 : FI := ⟨Go.Proofs.Tryd.f156, [(3, [0, 1, 5, 6], []), (7, [0, 1, 5, 7], []), (10, [0, 1, 5, 7, 8], [])], [(.sl (.sl (.int .i64)))], false, false, false, []⟩
/-- loop.example/g00172/spec.SameLines -/
noncomputable def fi157 : FI := ⟨Go.Proofs.Tryd.f157, [(4, [0, 1, 5], [])], [.bool], false, false, false, []⟩
/-- unicode/utf8.RuneCountInString -/
noncomputable def fi158 : FI := ⟨Go.Proofs.Tryd.f158, [(2, [2, 4], [])], [.int .i64], false, false, false, []⟩
/-- unicode/utf8.DecodeRuneInString -/
noncomputable def fi159 : FI := ⟨Go.Proofs.Tryd.f159, [], [.int .i32, .int .i64], false, false, false, []⟩
/-- internal/stringslite.Index -/
noncomputable def fi161 : FI := ⟨Go.Proofs.Tryd.f161, [(15, [0, 1, 5, 6, 7, 8, 9, 10], [])], [.int .i64], false, false, false, []⟩
/-- internal/strconv.small -/
noncomputable def fi162 : FI := ⟨Go.Proofs.Tryd.f162, [], [.str], false, false, false, []⟩
/-- internal/strconv.numDigits -/
noncomputable def fi163 : FI := ⟨Go.Proofs.Tryd.f163, [], [.int .i64], false, false, false, []⟩
/-- internal/strconv.formatBase10 -/
noncomputable def fi164 : FI := ⟨Go.Proofs.Tryd.f164, [(1, [0, 1, 4], [])], [], false, false, false, []⟩
/-- internal/strconv.formatBits -/
noncomputable def fi165 : FI := ⟨Go.Proofs.Tryd.f165, [(18, [0, 1, 3, 4, 10, 11, 12, 13, 17], []), (11, [0, 1, 3, 4, 10, 11, 12, 13, 14, 15, 16], [])], [(.sl (.int .u8)), .str], false, false, false, []⟩
/-- strings.HasSuffix -/
noncomputable def fi166 : FI := ⟨Go.Proofs.Tryd.f166, [], [.bool], false, false, false, []⟩
/-- math/bits.Mul32 -/
noncomputable def fi167 : FI := ⟨Go.Proofs.Tryd.f167, [], [.int .u32, .int .u32], false, false, false, []⟩
/-- math/bits.Mul64 -/
noncomputable def fi168 : FI := ⟨Go.Proofs.Tryd.f168, [], [.int .u64, .int .u64], false, false, false, []⟩
/-- internal/stringslite.HasPrefix -/
noncomputable def fi169 : FI := ⟨Go.Proofs.Tryd.f169, [], [.bool], false, false, false, []⟩
/-- loop.example/g00172/spec.l1Max -/
noncomputable def fi170 : FI := ⟨Go.Proofs.Tryd.f170, [], [.int .i64], false, false, false, []⟩
/-- unicode/utf8.decodeRuneInStringSlow -/
noncomputable def fi171 : FI := ⟨Go.Proofs.Tryd.f171, [], [.int .i32, .int .i64], false, false, false, []⟩
/-- internal/stringslite.IndexByte -/
noncomputable def fi172 : FI := ⟨Go.Proofs.Tryd.f172, [], [.int .i64], false, false, false, []⟩
/-- internal/bytealg.Cutover -/
noncomputable def fi174 : FI := ⟨Go.Proofs.Tryd.f174, [], [.int .i64], false, false, false, []⟩
/-- internal/bytealg.IndexRabinKarp[string] -/
noncomputable def fi175 : FI := ⟨Go.Proofs.Tryd.f175, [(5, [0, 1, 5, 6, 7, 8, 9], []), (11, [0, 1, 5, 6, 7, 8, 10], [])], [.int .i64], false, false, false, []⟩
/-- internal/strconv.log10Pow2 -/
noncomputable def fi176 : FI := ⟨Go.Proofs.Tryd.f176, [], [.int .i64], false, false, false, []⟩
/-- math/bits.Len64 -/
noncomputable def fi177 : FI := ⟨Go.Proofs.Tryd.f177, [], [.int .i64], false, false, false, []⟩
/-- internal/strconv.bool2[int] -/
noncomputable def fi178 : FI := ⟨Go.Proofs.Tryd.f178, [], [.int .i64], false, false, false, []⟩
/-- internal/strconv.isPowerOfTwo -/
noncomputable def fi179 : FI := ⟨Go.Proofs.Tryd.f179, [], [.bool], false, false, false, []⟩
/-- math/bits.TrailingZeros -/
noncomputable def fi180 : FI := ⟨Go.Proofs.Tryd.f180, [], [.int .i64], false, false, false, []⟩
/-- internal/stringslite.HasSuffix -/
noncomputable def fi181 : FI := ⟨Go.Proofs.Tryd.f181, [], [.bool], false, false, false, []⟩
/-- internal/bytealg.hashStr[string] -/
noncomputable def fi183 : FI := ⟨Go.Proofs.Tryd.f183, [(3, [0, 4, 5], []), (8, [4, 6, 7, 8], [])], [.int .u32, .int .u32], false, false, false, []⟩
/-- math/bits.TrailingZeros32 -/
noncomputable def fi184 : FI := ⟨Go.Proofs.Tryd.f184, [], [.int .i64], false, false, false, []⟩
/-- math/bits.TrailingZeros64 -/
noncomputable def fi185 : FI := ⟨Go.Proofs.Tryd.f185, [], [.int .i64], false, false, false, []⟩
/-- gosem.cut.vars -/
noncomputable def fi210 : FI := ⟨Go.Proofs.Tryd.f210, [], [], false, false, false, []⟩
noncomputable def fiT : Tr FI := (.node 92 fi92 (.node 47 fi47 (.node 25 fi25 (.node 14 fi14 (.node 8 fi8 (.node 5 fi5 (.node 4 fi4 (.node 3 fi3 .leaf .leaf) .leaf) (.node 7 fi7 (.node 6 fi6 .leaf .leaf) .leaf)) (.node 11 fi11 (.node 10 fi10 (.node 9 fi9 .leaf .leaf) .leaf) (.node 13 fi13 (.node 12 fi12 .leaf .leaf) .leaf))) (.node 20 fi20 (.node 17 fi17 (.node 16 fi16 (.node 15 fi15 .leaf .leaf) .leaf) (.node 19 fi19 (.node 18 fi18 .leaf .leaf) .leaf)) (.node 23 fi23 (.node 22 fi22 (.node 21 fi21 .leaf .leaf) .leaf) (.node 24 fi24 .leaf .leaf)))) (.node 36 fi36 (.node 31 fi31 (.node 28 fi28 (.node 27 fi27 (.node 26 fi26 .leaf .leaf) .leaf) (.node 30 fi30 (.node 29 fi29 .leaf .leaf) .leaf)) (.node 34 fi34 (.node 33 fi33 (.node 32 fi32 .leaf .leaf) .leaf) (.node 35 fi35 .leaf .leaf))) (.node 42 fi42 (.node 39 fi39 (.node 38 fi38 (.node 37 fi37 .leaf .leaf) .leaf) (.node 41 fi41 (.node 40 fi40 .leaf .leaf) .leaf)) (.node 45 fi45 (.node 44 fi44 (.node 43 fi43 .leaf .leaf) .leaf) (.node 46 fi46 .leaf .leaf))))) (.node 69 fi69 (.node 58 fi58 (.node 53 fi53 (.node 50 fi50 (.node 49 fi49 (.node 48 fi48 .leaf .leaf) .leaf) (.node 52 fi52 (.node 51 fi51 .leaf .leaf) .leaf)) (.node 56 fi56 (.node 55 fi55 (.node 54 fi54 .leaf .leaf) .leaf) (.node 57 fi57 .leaf .leaf))) (.node 64 fi64 (.node 61 fi61 (.node 60 fi60 (.node 59 fi59 .leaf .leaf) .leaf) (.node 63 fi63 (.node 62 fi62 .leaf .leaf) .leaf)) (.node 67 fi67 (.node 66 fi66 (.node 65 fi65 .leaf .leaf) .leaf) (.node 68 fi68 .leaf .leaf)))) (.node 80 fi80 (.node 75 fi75 (.node 72 fi72 (.node 71 fi71 (.node 70 fi70 .leaf .leaf) .leaf) (.node 74 fi74 (.node 73 fi73 .leaf .leaf) .leaf)) (.node 78 fi78 (.node 77 fi77 (.node 76 fi76 .leaf .leaf) .leaf) (.node 79 fi79 .leaf .leaf))) (.node 87 fi87 (.node 83 fi83 (.node 82 fi82 (.node 81 fi81 .leaf .leaf) .leaf) (.node 85 fi85 (.node 84 fi84 .leaf .leaf) .leaf)) (.node 90 fi90 (.node 89 fi89 (.node 88 fi88 .leaf .leaf) .leaf) (.node 91 fi91 .leaf .leaf)))))) (.node 139 fi139 (.node 115 fi115 (.node 103 fi103 (.node 98 fi98 (.node 95 fi95 (.node 94 fi94 (.node 93 fi93 .leaf .leaf) .leaf) (.node 97 fi97 (.node 96 fi96 .leaf .leaf) .leaf)) (.node 101 fi101 (.node 100 fi100 (.node 99 fi99 .leaf .leaf) .leaf) (.node 102 fi102 .leaf .leaf))) (.node 109 fi109 (.node 106 fi106 (.node 105 fi105 (.node 104 fi104 .leaf .leaf) .leaf) (.node 108 fi108 (.node 107 fi107 .leaf .leaf) .leaf)) (.node 113 fi113 (.node 112 fi112 (.node 110 fi110 .leaf .leaf) .leaf) (.node 114 fi114 .leaf .leaf)))) (.node 127 fi127 (.node 121 fi121 (.node 118 fi118 (.node 117 fi117 (.node 116 fi116 .leaf .leaf) .leaf) (.node 120 fi120 (.node 119 fi119 .leaf .leaf) .leaf)) (.node 125 fi125 (.node 124 fi124 (.node 122 fi122 .leaf .leaf) .leaf) (.node 126 fi126 .leaf .leaf))) (.node 133 fi133 (.node 130 fi130 (.node 129 fi129 (.node 128 fi128 .leaf .leaf) .leaf) (.node 132 fi132 (.node 131 fi131 .leaf .leaf) .leaf)) (.node 137 fi137 (.node 136 fi136 (.node 135 fi135 .leaf .leaf) .leaf) (.node 138 fi138 .leaf .leaf))))) (.node 163 fi163 (.node 151 fi151 (.node 146 fi146 (.node 142 fi142 (.node 141 fi141 (.node 140 fi140 .leaf .leaf) .leaf) (.node 145 fi145 (.node 144 fi144 .leaf .leaf) .leaf)) (.node 149 fi149 (.node 148 fi148 (.node 147 fi147 .leaf .leaf) .leaf) (.node 150 fi150 .leaf .leaf))) (.node 157 fi157 (.node 154 fi154 (.node 153 fi153 (.node 152 fi152 .leaf .leaf) .leaf) (.node 156 fi156 (.node 155 fi155 .leaf .leaf) .leaf)) (.node 161 fi161 (.node 159 fi159 (.node 158 fi158 .leaf .leaf) .leaf) (.node 162 fi162 .leaf .leaf)))) (.node 175 fi175 (.node 169 fi169 (.node 166 fi166 (.node 165 fi165 (.node 164 fi164 .leaf .leaf) .leaf) (.node 168 fi168 (.node 167 fi167 .leaf .leaf) .leaf)) (.node 172 fi172 (.node 171 fi171 (.node 170 fi170 .leaf .leaf) .leaf) (.node 174 fi174 .leaf .leaf))) (.node 181 fi181 (.node 178 fi178 (.node 177 fi177 (.node 176 fi176 .leaf .leaf) .leaf) (.node 180 fi180 (.node 179 fi179 .leaf .leaf) .leaf)) (.node 185 fi185 (.node 184 fi184 (.node 183 fi183 .leaf .leaf) .leaf) (.node 210 fi210 .leaf .leaf)))))))
/-- xtOf, for the tables -/
def xtF (l : List (Nat × XT)) (f : Nat) : Option XT := match l with
  | [] => none
  | (k, x) :: r => match Nat.beq k f with
    | true => some x
    | false => xtF r f
def xtL : List (Nat × XT) := [(134, .compare), (160, .count), (182, .indexByte), (86, .insert (.st (.pair .str (.pair .str .unit))))]
noncomputable def env : Env := { fi := fiT.find, xt := xtF xtL, ti := fun t => (tiT.find t).getD ⟨.other, false, 1000000000, 0, .unit, [], []⟩, glob := fun _ => none }
end Go.Proofs.YtjklgmflillagaaDoor.Ev
