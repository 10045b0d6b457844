/-
 Facts of the types. Printed by program.
 What the machine of values takes for known of slices.Clone is so. Printed by program.
-/
import Derived.Test.YthiciofacaeddaaGreatProg
import Derived.Test.YthiciofacaeddaaGreatMd
import Derived.KernelRfl
import Derived.WalkKit
import Derived.ProofKit
import Derived.OwnWalk
section
namespace Go.Proofs.YthiciofacaeddaaGreat
open Go Go.Sim
set_option maxRecDepth 100000
set_option linter.unusedVariables false
set_option linter.unusedSimpArgs false
attribute [simp] Tryz.underlying0
attribute [simp] Tryz.underlying1
attribute [simp] Tryz.underlying2
@[simp] theorem agg_3 : isAggV Tryz.prog 3 = some false := by kernel_rfl
@[simp] theorem size_3 : sizeV Tryz.prog 3 = some 1 := by kernel_rfl
@[simp] theorem bytes_3 : bytesV Tryz.prog 3 = some 8 := by kernel_rfl
@[simp] theorem zero_3 : zeroV Tryz.prog 3 = some (.int .i64 0) := by kernel_rfl
attribute [simp] Tryz.underlying3
@[simp] theorem agg_4 : isAggV Tryz.prog 4 = some false := by kernel_rfl
@[simp] theorem size_4 : sizeV Tryz.prog 4 = some 1 := by kernel_rfl
attribute [simp] Tryz.underlying4
@[simp] theorem agg_5 : isAggV Tryz.prog 5 = some false := by kernel_rfl
@[simp] theorem size_5 : sizeV Tryz.prog 5 = some 1 := by kernel_rfl
@[simp] theorem bytes_5 : bytesV Tryz.prog 5 = some 1 := by kernel_rfl
@[simp] theorem zero_5 : zeroV Tryz.prog 5 = some (.int .u8 0) := by kernel_rfl
attribute [simp] Tryz.underlying5
attribute [simp] Tryz.underlying6
attribute [simp] Tryz.underlying7
attribute [simp] Tryz.underlying8
@[simp] theorem agg_9 : isAggV Tryz.prog 9 = some false := by kernel_rfl
@[simp] theorem size_9 : sizeV Tryz.prog 9 = some 1 := by kernel_rfl
attribute [simp] Tryz.underlying9
attribute [simp] Tryz.underlying10
attribute [simp] Tryz.underlying11
attribute [simp] Tryz.underlying12
attribute [simp] Tryz.underlying13
attribute [simp] Tryz.underlying14
attribute [simp] Tryz.underlying15
attribute [simp] Tryz.underlying16
attribute [simp] Tryz.underlying17
attribute [simp] Tryz.underlying18
attribute [simp] Tryz.underlying19
attribute [simp] Tryz.underlying20
attribute [simp] Tryz.underlying21
@[simp] theorem agg_22 : isAggV Tryz.prog 22 = some false := by kernel_rfl
@[simp] theorem size_22 : sizeV Tryz.prog 22 = some 1 := by kernel_rfl
@[simp] theorem zero_22 : zeroV Tryz.prog 22 = some (.nilslice) := by kernel_rfl
attribute [simp] Tryz.underlying22
@[simp] theorem agg_23 : isAggV Tryz.prog 23 = some false := by kernel_rfl
@[simp] theorem size_23 : sizeV Tryz.prog 23 = some 1 := by kernel_rfl
attribute [simp] Tryz.underlying23
@[simp] theorem agg_24 : isAggV Tryz.prog 24 = some false := by kernel_rfl
@[simp] theorem size_24 : sizeV Tryz.prog 24 = some 1 := by kernel_rfl
@[simp] theorem bytes_24 : bytesV Tryz.prog 24 = some 24 := by kernel_rfl
@[simp] theorem zero_24 : zeroV Tryz.prog 24 = some (.nilslice) := by kernel_rfl
attribute [simp] Tryz.underlying24
@[simp] theorem agg_25 : isAggV Tryz.prog 25 = some false := by kernel_rfl
@[simp] theorem size_25 : sizeV Tryz.prog 25 = some 1 := by kernel_rfl
@[simp] theorem bytes_25 : bytesV Tryz.prog 25 = some 4 := by kernel_rfl
@[simp] theorem zero_25 : zeroV Tryz.prog 25 = some (.int .u32 0) := by kernel_rfl
attribute [simp] Tryz.underlying25
@[simp] theorem agg_26 : isAggV Tryz.prog 26 = some false := by kernel_rfl
@[simp] theorem size_26 : sizeV Tryz.prog 26 = some 1 := by kernel_rfl
attribute [simp] Tryz.underlying26
attribute [simp] Tryz.underlying27
@[simp] theorem agg_28 : isAggV Tryz.prog 28 = some true := by kernel_rfl
@[simp] theorem size_28 : sizeV Tryz.prog 28 = some 6 := by kernel_rfl
@[simp] theorem zero_28 : zeroV Tryz.prog 28 = some (.agg [.nilslice, .nilslice, .nilslice, .int .u32 0, .int .u32 0, .nilslice]) := by kernel_rfl
attribute [simp] Tryz.underlying28
attribute [simp] Tryz.underlying29
attribute [simp] Tryz.underlying30
attribute [simp] Tryz.underlying31
attribute [simp] Tryz.underlying32
attribute [simp] Tryz.underlying33
attribute [simp] Tryz.underlying34
attribute [simp] Tryz.underlying35
attribute [simp] Tryz.underlying36
attribute [simp] Tryz.underlying37
attribute [simp] Tryz.underlying38
attribute [simp] Tryz.underlying39
attribute [simp] Tryz.underlying40
attribute [simp] Tryz.underlying41
attribute [simp] Tryz.underlying42
attribute [simp] Tryz.underlying43
@[simp] theorem agg_44 : isAggV Tryz.prog 44 = some false := by kernel_rfl
@[simp] theorem size_44 : sizeV Tryz.prog 44 = some 1 := by kernel_rfl
attribute [simp] Tryz.underlying44
attribute [simp] Tryz.underlying45
attribute [simp] Tryz.underlying46
attribute [simp] Tryz.underlying47
attribute [simp] Tryz.underlying48
attribute [simp] Tryz.underlying49
attribute [simp] Tryz.underlying50
attribute [simp] Tryz.underlying51
attribute [simp] Tryz.underlying52
@[simp] theorem agg_53 : isAggV Tryz.prog 53 = some false := by kernel_rfl
@[simp] theorem size_53 : sizeV Tryz.prog 53 = some 1 := by kernel_rfl
@[simp] theorem zero_53 : zeroV Tryz.prog 53 = some (.int .i64 0) := by kernel_rfl
attribute [simp] Tryz.underlying53
attribute [simp] Tryz.underlying54
attribute [simp] Tryz.underlying55
attribute [simp] Tryz.underlying56
attribute [simp] Tryz.underlying57
attribute [simp] Tryz.underlying58
attribute [simp] Tryz.underlying59
attribute [simp] Tryz.underlying60
attribute [simp] Tryz.underlying61
attribute [simp] Tryz.underlying62
attribute [simp] Tryz.underlying63
attribute [simp] Tryz.underlying64
attribute [simp] Tryz.underlying65
attribute [simp] Tryz.underlying66
attribute [simp] Tryz.underlying67
attribute [simp] Tryz.underlying68
@[simp] theorem agg_69 : isAggV Tryz.prog 69 = some false := by kernel_rfl
@[simp] theorem size_69 : sizeV Tryz.prog 69 = some 1 := by kernel_rfl
attribute [simp] Tryz.underlying69
attribute [simp] Tryz.underlying70
@[simp] theorem agg_71 : isAggV Tryz.prog 71 = some true := by kernel_rfl
@[simp] theorem size_71 : sizeV Tryz.prog 71 = some 2 := by kernel_rfl
@[simp] theorem bytes_71 : bytesV Tryz.prog 71 = some 8 := by kernel_rfl
@[simp] theorem zero_71 : zeroV Tryz.prog 71 = some (.agg [.int .u8 0, .int .u32 0]) := by kernel_rfl
attribute [simp] Tryz.underlying71
attribute [simp] Tryz.underlying72
@[simp] theorem agg_73 : isAggV Tryz.prog 73 = some false := by kernel_rfl
@[simp] theorem size_73 : sizeV Tryz.prog 73 = some 1 := by kernel_rfl
attribute [simp] Tryz.underlying73
@[simp] theorem agg_74 : isAggV Tryz.prog 74 = some false := by kernel_rfl
@[simp] theorem size_74 : sizeV Tryz.prog 74 = some 1 := by kernel_rfl
@[simp] theorem zero_74 : zeroV Tryz.prog 74 = some (.nilslice) := by kernel_rfl
attribute [simp] Tryz.underlying74
attribute [simp] Tryz.underlying75
@[simp] theorem zero_76 : zeroV Tryz.prog 76 = some (.agg [.nilslice, .nilslice, .nilslice, .int .u32 0, .int .u32 0, .nilslice, .int .i64 0, .nilslice, .nilslice]) := by kernel_rfl
attribute [simp] Tryz.underlying76
attribute [simp] Tryz.underlying77
attribute [simp] Tryz.underlying78
attribute [simp] Tryz.underlying79
@[simp] theorem agg_80 : isAggV Tryz.prog 80 = some true := by kernel_rfl
@[simp] theorem size_80 : sizeV Tryz.prog 80 = some 2 := by kernel_rfl
@[simp] theorem bytes_80 : bytesV Tryz.prog 80 = some 24 := by kernel_rfl
@[simp] theorem zero_80 : zeroV Tryz.prog 80 = some (.agg [.str [], .int .u32 0]) := by kernel_rfl
attribute [simp] Tryz.underlying80
@[simp] theorem agg_81 : isAggV Tryz.prog 81 = some false := by kernel_rfl
@[simp] theorem size_81 : sizeV Tryz.prog 81 = some 1 := by kernel_rfl
@[simp] theorem zero_81 : zeroV Tryz.prog 81 = some (.int .u64 0) := by kernel_rfl
attribute [simp] Tryz.underlying81
attribute [simp] Tryz.underlying82
attribute [simp] Tryz.underlying83
attribute [simp] Tryz.underlying84
attribute [simp] Tryz.underlying85
@[simp] theorem agg_86 : isAggV Tryz.prog 86 = some true := by kernel_rfl
@[simp] theorem size_86 : sizeV Tryz.prog 86 = some 4 := by kernel_rfl
@[simp] theorem bytes_86 : bytesV Tryz.prog 86 = some 24 := by kernel_rfl
@[simp] theorem zero_86 : zeroV Tryz.prog 86 = some (.agg [.int .u32 0, .int .u32 0, .int .u32 0, .int .i64 0]) := by kernel_rfl
attribute [simp] Tryz.underlying86
attribute [simp] Tryz.underlying87
attribute [simp] Tryz.underlying88
attribute [simp] Tryz.underlying89
attribute [simp] Tryz.underlying90
@[simp] theorem agg_91 : isAggV Tryz.prog 91 = some false := by kernel_rfl
@[simp] theorem size_91 : sizeV Tryz.prog 91 = some 1 := by kernel_rfl
attribute [simp] Tryz.underlying91
attribute [simp] Tryz.underlying92
@[simp] theorem agg_93 : isAggV Tryz.prog 93 = some true := by kernel_rfl
@[simp] theorem size_93 : sizeV Tryz.prog 93 = some 2 := by kernel_rfl
@[simp] theorem zero_93 : zeroV Tryz.prog 93 = some (.agg [.nilptr, .nilslice]) := by kernel_rfl
attribute [simp] Tryz.underlying93
attribute [simp] Tryz.underlying94
@[simp] theorem agg_95 : isAggV Tryz.prog 95 = some true := by kernel_rfl
@[simp] theorem size_95 : sizeV Tryz.prog 95 = some 2 := by kernel_rfl
@[simp] theorem zero_95 : zeroV Tryz.prog 95 = some (.agg [.nilslice, .nilslice]) := by kernel_rfl
attribute [simp] Tryz.underlying95
attribute [simp] Tryz.underlying96
@[simp] theorem zero_97 : zeroV Tryz.prog 97 = some (.agg [.nilptr, .nilslice, .nilslice, .nilslice, .nilslice, .nilslice, .nilslice, .int .u32 0, .int .u32 0, .nilslice, .int .i64 0, .int .u64 0]) := by kernel_rfl
attribute [simp] Tryz.underlying97
@[simp] theorem agg_98 : isAggV Tryz.prog 98 = some false := by kernel_rfl
@[simp] theorem size_98 : sizeV Tryz.prog 98 = some 1 := by kernel_rfl
attribute [simp] Tryz.underlying98
attribute [simp] Tryz.underlying99
attribute [simp] Tryz.underlying100
attribute [simp] Tryz.underlying101
attribute [simp] Tryz.underlying102
attribute [simp] Tryz.underlying103
attribute [simp] Tryz.underlying104
attribute [simp] Tryz.underlying105
attribute [simp] Tryz.underlying106
attribute [simp] Tryz.underlying107
attribute [simp] Tryz.underlying108
attribute [simp] Tryz.underlying109
attribute [simp] Tryz.underlying110
attribute [simp] Tryz.underlying111
attribute [simp] Tryz.underlying112
attribute [simp] Tryz.underlying113
attribute [simp] Tryz.underlying114
attribute [simp] Tryz.underlying115
attribute [simp] Tryz.underlying116
attribute [simp] Tryz.underlying117
attribute [simp] Tryz.underlying118
attribute [simp] Tryz.underlying119
attribute [simp] Tryz.underlying120
attribute [simp] Tryz.underlying121
@[simp] theorem zero_122 : zeroV Tryz.prog 122 = some (.agg [.nilptr]) := by kernel_rfl
attribute [simp] Tryz.underlying122
attribute [simp] Tryz.underlying123
attribute [simp] Tryz.underlying124
attribute [simp] Tryz.underlying125
attribute [simp] Tryz.underlying126
attribute [simp] Tryz.underlying127
attribute [simp] Tryz.underlying128
attribute [simp] Tryz.underlying129
attribute [simp] Tryz.underlying130
attribute [simp] Tryz.underlying131
attribute [simp] Tryz.underlying132
@[simp] theorem agg_133 : isAggV Tryz.prog 133 = some false := by kernel_rfl
@[simp] theorem size_133 : sizeV Tryz.prog 133 = some 1 := by kernel_rfl
@[simp] theorem zero_133 : zeroV Tryz.prog 133 = some (.nilslice) := by kernel_rfl
attribute [simp] Tryz.underlying133
attribute [simp] Tryz.underlying134
attribute [simp] Tryz.underlying135
attribute [simp] Tryz.underlying136
@[simp] theorem agg_137 : isAggV Tryz.prog 137 = some true := by kernel_rfl
@[simp] theorem size_137 : sizeV Tryz.prog 137 = some 2 := by kernel_rfl
@[simp] theorem bytes_137 : bytesV Tryz.prog 137 = some 8 := by kernel_rfl
@[simp] theorem zero_137 : zeroV Tryz.prog 137 = some (.agg [.int .u32 0, .int .u32 0]) := by kernel_rfl
attribute [simp] Tryz.underlying137
attribute [simp] Tryz.underlying138
attribute [simp] Tryz.underlying139
attribute [simp] Tryz.underlying140
attribute [simp] Tryz.underlying141
attribute [simp] Tryz.underlying142
attribute [simp] Tryz.underlying143
@[simp] theorem agg_144 : isAggV Tryz.prog 144 = some true := by kernel_rfl
@[simp] theorem size_144 : sizeV Tryz.prog 144 = some 4 := by kernel_rfl
@[simp] theorem zero_144 : zeroV Tryz.prog 144 = some (.agg [.int .i64 0, .int .i64 0, .int .i64 0, .int .i64 0]) := by kernel_rfl
attribute [simp] Tryz.underlying144
attribute [simp] Tryz.underlying145
attribute [simp] Tryz.underlying146
attribute [simp] Tryz.underlying147
attribute [simp] Tryz.underlying148
attribute [simp] Tryz.underlying149
attribute [simp] Tryz.underlying150
attribute [simp] Tryz.underlying151
attribute [simp] Tryz.underlying152
attribute [simp] Tryz.underlying153
attribute [simp] Tryz.underlying154
attribute [simp] Tryz.underlying155
attribute [simp] Tryz.underlying156
attribute [simp] Tryz.underlying157
attribute [simp] Tryz.underlying158
attribute [simp] Tryz.underlying159
attribute [simp] Tryz.underlying160
attribute [simp] Tryz.underlying161
attribute [simp] Tryz.underlying162
attribute [simp] Tryz.underlying163
attribute [simp] Tryz.underlying164
@[simp] theorem zero_165 : zeroV Tryz.prog 165 = some (.agg [.nilslice, .nilslice, .nilslice]) := by kernel_rfl
attribute [simp] Tryz.underlying165
attribute [simp] Tryz.underlying166
@[simp] theorem agg_167 : isAggV Tryz.prog 167 = some false := by kernel_rfl
@[simp] theorem size_167 : sizeV Tryz.prog 167 = some 1 := by kernel_rfl
attribute [simp] Tryz.underlying167
attribute [simp] Tryz.underlying168
attribute [simp] Tryz.underlying169
attribute [simp] Tryz.underlying170
attribute [simp] Tryz.underlying171
attribute [simp] Tryz.underlying172
attribute [simp] Tryz.underlying173
attribute [simp] Tryz.underlying174
attribute [simp] Tryz.underlying175
attribute [simp] Tryz.underlying176
attribute [simp] Tryz.underlying177
attribute [simp] Tryz.underlying178
attribute [simp] Tryz.underlying179
attribute [simp] Tryz.underlying180
attribute [simp] Tryz.underlying181
attribute [simp] Tryz.underlying182
attribute [simp] Tryz.underlying183
attribute [simp] Tryz.underlying184
attribute [simp] Tryz.underlying185
attribute [simp] Tryz.underlying186
attribute [simp] Tryz.underlying187
attribute [simp] Tryz.underlying188
attribute [simp] Tryz.underlying189
attribute [simp] Tryz.underlying190
attribute [simp] Tryz.underlying191
attribute [simp] Tryz.underlying192
attribute [simp] Tryz.underlying193
attribute [simp] Tryz.underlying194
@[simp] theorem agg_195 : isAggV Tryz.prog 195 = some false := by kernel_rfl
@[simp] theorem size_195 : sizeV Tryz.prog 195 = some 1 := by kernel_rfl
attribute [simp] Tryz.underlying195
attribute [simp] Tryz.underlying196
attribute [simp] Tryz.underlying197
attribute [simp] Tryz.underlying198
attribute [simp] Tryz.underlying199
attribute [simp] Tryz.underlying200
attribute [simp] Tryz.underlying201
@[simp] theorem agg_202 : isAggV Tryz.prog 202 = some false := by kernel_rfl
@[simp] theorem size_202 : sizeV Tryz.prog 202 = some 1 := by kernel_rfl
attribute [simp] Tryz.underlying202
attribute [simp] Tryz.underlying203
@[simp] theorem agg_204 : isAggV Tryz.prog 204 = some true := by kernel_rfl
@[simp] theorem size_204 : sizeV Tryz.prog 204 = some 6 := by kernel_rfl
@[simp] theorem zero_204 : zeroV Tryz.prog 204 = some (.agg [.str [], .int .i64 0, .int .u32 0, .int .i64 0, .int .i64 0, .int .u8 0]) := by kernel_rfl
attribute [simp] Tryz.underlying204
attribute [simp] Tryz.underlying205
attribute [simp] Tryz.underlying206
attribute [simp] Tryz.underlying207
attribute [simp] Tryz.underlying208
attribute [simp] Tryz.underlying209
attribute [simp] Tryz.underlying210
@[simp] theorem zero_211 : zeroV Tryz.prog 211 = some (.agg [.nilslice, .nilslice, .nilptr]) := by kernel_rfl
attribute [simp] Tryz.underlying211
attribute [simp] Tryz.underlying212
attribute [simp] Tryz.underlying213
attribute [simp] Tryz.underlying214
attribute [simp] Tryz.underlying215
attribute [simp] Tryz.underlying216
attribute [simp] Tryz.underlying217
attribute [simp] Tryz.underlying218
attribute [simp] Tryz.underlying219
attribute [simp] Tryz.underlying220
attribute [simp] Tryz.underlying221
attribute [simp] Tryz.underlying222
attribute [simp] Tryz.underlying223
attribute [simp] Tryz.underlying224
attribute [simp] Tryz.underlying225
attribute [simp] Tryz.underlying226
attribute [simp] Tryz.underlying227
attribute [simp] Tryz.underlying228
attribute [simp] Tryz.underlying229
attribute [simp] Tryz.underlying230
attribute [simp] Tryz.underlying231
attribute [simp] Tryz.underlying232
attribute [simp] Tryz.underlying233
attribute [simp] Tryz.underlying234
attribute [simp] Tryz.underlying235
attribute [simp] Tryz.underlying236
attribute [simp] Tryz.underlying237
attribute [simp] Tryz.underlying238
attribute [simp] Tryz.underlying239
attribute [simp] Tryz.underlying240
@[simp] theorem agg_241 : isAggV Tryz.prog 241 = some false := by kernel_rfl
@[simp] theorem size_241 : sizeV Tryz.prog 241 = some 1 := by kernel_rfl
attribute [simp] Tryz.underlying241
attribute [simp] Tryz.underlying242
attribute [simp] Tryz.underlying243
attribute [simp] Tryz.underlying244
attribute [simp] Tryz.underlying245
attribute [simp] Tryz.underlying246
attribute [simp] Tryz.underlying247
attribute [simp] Tryz.underlying248
attribute [simp] Tryz.underlying249
attribute [simp] Tryz.underlying250
attribute [simp] Tryz.underlying251
attribute [simp] Tryz.underlying252
attribute [simp] Tryz.underlying253
attribute [simp] Tryz.underlying254
attribute [simp] Tryz.underlying255
attribute [simp] Tryz.underlying256
attribute [simp] Tryz.underlying257
attribute [simp] Tryz.underlying258
attribute [simp] Tryz.underlying259
attribute [simp] Tryz.underlying260
attribute [simp] Tryz.underlying261
attribute [simp] Tryz.underlying262
attribute [simp] Tryz.underlying263
attribute [simp] Tryz.underlying264
attribute [simp] Tryz.underlying265
attribute [simp] Tryz.underlying266
attribute [simp] Tryz.underlying267
attribute [simp] Tryz.underlying268
attribute [simp] Tryz.underlying269
attribute [simp] Tryz.underlying270
attribute [simp] Tryz.underlying271
attribute [simp] Tryz.underlying272
attribute [simp] Tryz.underlying273
attribute [simp] Tryz.underlying274
attribute [simp] Tryz.underlying275
attribute [simp] Tryz.underlying276
end Go.Proofs.YthiciofacaeddaaGreat
end
section
namespace Go.Proofs.YthiciofacaeddaaGreat
open Go Go.Sim
set_option maxRecDepth 100000
set_option linter.unusedVariables false
set_option linter.unusedSimpArgs false

theorem wpList_append_any {P : Program} (w : World) {ops : Array Oper} {rest : List Oper} {o : Oper} {a : Act} {Q : Exit → Act → World → Prop} (hgd : o.guard = none) (s x : Operand) (t tn : TypeId)
  (ho : o.op = .call { callee := .builtin .append, args := #[s, x], argTypes := #[t, tn] }) (vs vx : Value) (hs : a.eval s = vs) (hx : a.eval x = vx)
  (v' : Value) (w' : World) (hr : (Builtin.append_ #[t, tn] o.type #[vs, vx]).run P w = .ok v' w') (h : wpList P ops Q rest (a.put o.dst v') w') : wpList P ops Q (o :: rest) a w := by
 refine wpList_plain hgd fun K hK' => ?_
 unfold Oper.wp
 simp [execOp, ho, resolve, invoke, builtin, hs, hx, hr, Result.andThen]
 exact hK' _ _ h
theorem clone_nil_105 (w : World) : Calls Tryz.prog 105 #[.slice none 0 0] w fun e w' => e = .returned (.slice none 0 0) ∧ w' = w := by
 have he := fun w => run_eql_nil2 (P := Tryz.prog) (t := 22) Tryz.underlying22 w
 go_enter Tryz.func105, Tryz.ntmps105
 go_wp2
 go_ret
 exact ⟨rfl, rfl⟩
theorem clone_some_105 (a : Addr) (n c : Nat) (w w2 : World) (x : Value) (h2 : (Builtin.append_ #[22, 22] 22 #[.slice (some ⟨w.heap.size, 0, none⟩) 0 0, .slice (some a) n c]).run Tryz.prog (w.alloc (.cells #[] 71 (0, 0))) = .ok x w2) :
  Calls Tryz.prog 105 #[.slice (some a) n c] w fun e w' => e = .returned x ∧ w' = w2 := by
 have he := fun w => run_eql_nil (P := Tryz.prog) (t := 22) Tryz.underlying22 a n c w
 go_enter Tryz.func105, Tryz.ntmps105
 go_wp2_with (at_builtin; refine wpList_append_any _ rfl _ _ 22 22 rfl _ _ rfl rfl x w2 h2 ?_)
 go_ret
 exact ⟨rfl, rfl⟩
theorem known_105 : ∀ args h r h', cloneWL 17592186044416 2 args h = some (r, h') → CallS Tryz.prog (fun _ => true) 105 args h r h' := by
 intro args h r h' hc
 obtain ⟨s, rfl⟩ : ∃ s, args = [s] := by
  unfold cloneWL at hc
  split at hc
  ·exact ⟨_, rfl⟩
  ·exact ⟨_, rfl⟩
  ·cases hc
 intro ok B w args' R hh ha hR
 simp only [VRelL] at ha
 obtain ⟨v, l', rfl, hv, rfl⟩ := ha
 refine callsIn_wide.2 ?_
 have hA := clone_after (P := Tryz.prog) (t := 22) (e := 71) (ty := 22) (by_ := 8) hh Tryz.underlying22 size_71 bytes_71 zero_71 (by omega) (by omega) (by omega) rfl hc hv
 rcases hA with ⟨rfl, hA⟩ | ⟨a, n, c, u, w1, x, w2, ok', B', rfl, h1, h2, hA⟩
 ·exact (clone_nil_105 w).mono fun e w' ⟨he, hw⟩ => by subst he hw; exact hR _ _ _ _ hA
 ·rw [run_build_none (P := Tryz.prog) Tryz.underlying22 size_71] at h1
  simp only [Result.ok.injEq] at h1
  obtain ⟨rfl, rfl⟩ := h1
  exact (clone_some_105 a n c w w2 x h2).mono fun e w' ⟨he, hw⟩ => by subst he hw; exact hR _ _ _ _ hA
theorem clone_nil_106 (w : World) : Calls Tryz.prog 106 #[.slice none 0 0] w fun e w' => e = .returned (.slice none 0 0) ∧ w' = w := by
 have he := fun w => run_eql_nil2 (P := Tryz.prog) (t := 23) Tryz.underlying23 w
 go_enter Tryz.func106, Tryz.ntmps106
 go_wp2
 go_ret
 exact ⟨rfl, rfl⟩
theorem clone_some_106 (a : Addr) (n c : Nat) (w w2 : World) (x : Value) (h2 : (Builtin.append_ #[23, 23] 23 #[.slice (some ⟨w.heap.size, 0, none⟩) 0 0, .slice (some a) n c]).run Tryz.prog (w.alloc (.cells #[] 25 (0, 0))) = .ok x w2) :
  Calls Tryz.prog 106 #[.slice (some a) n c] w fun e w' => e = .returned x ∧ w' = w2 := by
 have he := fun w => run_eql_nil (P := Tryz.prog) (t := 23) Tryz.underlying23 a n c w
 go_enter Tryz.func106, Tryz.ntmps106
 go_wp2_with (at_builtin; refine wpList_append_any _ rfl _ _ 23 23 rfl _ _ rfl rfl x w2 h2 ?_)
 go_ret
 exact ⟨rfl, rfl⟩
theorem known_106 : ∀ args h r h', cloneWL 35184372088832 1 args h = some (r, h') → CallS Tryz.prog (fun _ => true) 106 args h r h' := by
 intro args h r h' hc
 obtain ⟨s, rfl⟩ : ∃ s, args = [s] := by
  unfold cloneWL at hc
  split at hc
  ·exact ⟨_, rfl⟩
  ·exact ⟨_, rfl⟩
  ·cases hc
 intro ok B w args' R hh ha hR
 simp only [VRelL] at ha
 obtain ⟨v, l', rfl, hv, rfl⟩ := ha
 refine callsIn_wide.2 ?_
 have hA := clone_after (P := Tryz.prog) (t := 23) (e := 25) (ty := 23) (by_ := 4) hh Tryz.underlying23 size_25 bytes_25 zero_25 (by omega) (by omega) (by omega) rfl hc hv
 rcases hA with ⟨rfl, hA⟩ | ⟨a, n, c, u, w1, x, w2, ok', B', rfl, h1, h2, hA⟩
 ·exact (clone_nil_106 w).mono fun e w' ⟨he, hw⟩ => by subst he hw; exact hR _ _ _ _ hA
 ·rw [run_build_none (P := Tryz.prog) Tryz.underlying23 size_25] at h1
  simp only [Result.ok.injEq] at h1
  obtain ⟨rfl, rfl⟩ := h1
  exact (clone_some_106 a n c w w2 x h2).mono fun e w' ⟨he, hw⟩ => by subst he hw; exact hR _ _ _ _ hA
theorem clone_nil_107 (w : World) : Calls Tryz.prog 107 #[.slice none 0 0] w fun e w' => e = .returned (.slice none 0 0) ∧ w' = w := by
 have he := fun w => run_eql_nil2 (P := Tryz.prog) (t := 24) Tryz.underlying24 w
 go_enter Tryz.func107, Tryz.ntmps107
 go_wp2
 go_ret
 exact ⟨rfl, rfl⟩
theorem clone_some_107 (a : Addr) (n c : Nat) (w w2 : World) (x : Value) (h2 : (Builtin.append_ #[24, 24] 24 #[.slice (some ⟨w.heap.size, 0, none⟩) 0 0, .slice (some a) n c]).run Tryz.prog (w.alloc (.cells #[] 5 (0, 0))) = .ok x w2) :
  Calls Tryz.prog 107 #[.slice (some a) n c] w fun e w' => e = .returned x ∧ w' = w2 := by
 have he := fun w => run_eql_nil (P := Tryz.prog) (t := 24) Tryz.underlying24 a n c w
 go_enter Tryz.func107, Tryz.ntmps107
 go_wp2_with (at_builtin; refine wpList_append_any _ rfl _ _ 24 24 rfl _ _ rfl rfl x w2 h2 ?_)
 go_ret
 exact ⟨rfl, rfl⟩
theorem known_107 : ∀ args h r h', cloneWL 140737488355328 1 args h = some (r, h') → CallS Tryz.prog (fun _ => true) 107 args h r h' := by
 intro args h r h' hc
 obtain ⟨s, rfl⟩ : ∃ s, args = [s] := by
  unfold cloneWL at hc
  split at hc
  ·exact ⟨_, rfl⟩
  ·exact ⟨_, rfl⟩
  ·cases hc
 intro ok B w args' R hh ha hR
 simp only [VRelL] at ha
 obtain ⟨v, l', rfl, hv, rfl⟩ := ha
 refine callsIn_wide.2 ?_
 have hA := clone_after (P := Tryz.prog) (t := 24) (e := 5) (ty := 24) (by_ := 1) hh Tryz.underlying24 size_5 bytes_5 zero_5 (by omega) (by omega) (by omega) rfl hc hv
 rcases hA with ⟨rfl, hA⟩ | ⟨a, n, c, u, w1, x, w2, ok', B', rfl, h1, h2, hA⟩
 ·exact (clone_nil_107 w).mono fun e w' ⟨he, hw⟩ => by subst he hw; exact hR _ _ _ _ hA
 ·rw [run_build_none (P := Tryz.prog) Tryz.underlying24 size_5] at h1
  simp only [Result.ok.injEq] at h1
  obtain ⟨rfl, rfl⟩ := h1
  exact (clone_some_107 a n c w w2 x h2).mono fun e w' ⟨he, hw⟩ => by subst he hw; exact hR _ _ _ _ hA
theorem clone_nil_108 (w : World) : Calls Tryz.prog 108 #[.slice none 0 0] w fun e w' => e = .returned (.slice none 0 0) ∧ w' = w := by
 have he := fun w => run_eql_nil2 (P := Tryz.prog) (t := 26) Tryz.underlying26 w
 go_enter Tryz.func108, Tryz.ntmps108
 go_wp2
 go_ret
 exact ⟨rfl, rfl⟩
theorem clone_some_108 (a : Addr) (n c : Nat) (w w2 : World) (x : Value) (h2 : (Builtin.append_ #[26, 26] 26 #[.slice (some ⟨w.heap.size, 0, none⟩) 0 0, .slice (some a) n c]).run Tryz.prog (w.alloc (.cells #[] 80 (0, 0))) = .ok x w2) :
  Calls Tryz.prog 108 #[.slice (some a) n c] w fun e w' => e = .returned x ∧ w' = w2 := by
 have he := fun w => run_eql_nil (P := Tryz.prog) (t := 26) Tryz.underlying26 a n c w
 go_enter Tryz.func108, Tryz.ntmps108
 go_wp2_with (at_builtin; refine wpList_append_any _ rfl _ _ 26 26 rfl _ _ rfl rfl x w2 h2 ?_)
 go_ret
 exact ⟨rfl, rfl⟩
theorem known_108 : ∀ args h r h', cloneWL 5864062014805 2 args h = some (r, h') → CallS Tryz.prog (fun _ => true) 108 args h r h' := by
 intro args h r h' hc
 obtain ⟨s, rfl⟩ : ∃ s, args = [s] := by
  unfold cloneWL at hc
  split at hc
  ·exact ⟨_, rfl⟩
  ·exact ⟨_, rfl⟩
  ·cases hc
 intro ok B w args' R hh ha hR
 simp only [VRelL] at ha
 obtain ⟨v, l', rfl, hv, rfl⟩ := ha
 refine callsIn_wide.2 ?_
 have hA := clone_after (P := Tryz.prog) (t := 26) (e := 80) (ty := 26) (by_ := 24) hh Tryz.underlying26 size_80 bytes_80 zero_80 (by omega) (by omega) (by omega) rfl hc hv
 rcases hA with ⟨rfl, hA⟩ | ⟨a, n, c, u, w1, x, w2, ok', B', rfl, h1, h2, hA⟩
 ·exact (clone_nil_108 w).mono fun e w' ⟨he, hw⟩ => by subst he hw; exact hR _ _ _ _ hA
 ·rw [run_build_none (P := Tryz.prog) Tryz.underlying26 size_80] at h1
  simp only [Result.ok.injEq] at h1
  obtain ⟨rfl, rfl⟩ := h1
  exact (clone_some_108 a n c w w2 x h2).mono fun e w' ⟨he, hw⟩ => by subst he hw; exact hR _ _ _ _ hA
theorem clone_nil_141 (w : World) : Calls Tryz.prog 141 #[.slice none 0 0] w fun e w' => e = .returned (.slice none 0 0) ∧ w' = w := by
 have he := fun w => run_eql_nil2 (P := Tryz.prog) (t := 24) Tryz.underlying24 w
 go_enter Tryz.func141, Tryz.ntmps141
 go_wp2
 go_ret
 exact ⟨rfl, rfl⟩
theorem clone_some_141 (a : Addr) (n c : Nat) (w w2 : World) (x : Value) (h2 : (Builtin.append_ #[24, 24] 24 #[.slice (some ⟨w.heap.size, 0, none⟩) 0 0, .slice (some a) n c]).run Tryz.prog (w.alloc (.cells #[] 5 (0, 0))) = .ok x w2) :
  Calls Tryz.prog 141 #[.slice (some a) n c] w fun e w' => e = .returned x ∧ w' = w2 := by
 have he := fun w => run_eql_nil (P := Tryz.prog) (t := 24) Tryz.underlying24 a n c w
 go_enter Tryz.func141, Tryz.ntmps141
 go_wp2_with (at_builtin; refine wpList_append_any _ rfl _ _ 24 24 rfl _ _ rfl rfl x w2 h2 ?_)
 go_ret
 exact ⟨rfl, rfl⟩
theorem known_141 : ∀ args h r h', cloneWL 140737488355328 1 args h = some (r, h') → CallS Tryz.prog (fun _ => true) 141 args h r h' := by
 intro args h r h' hc
 obtain ⟨s, rfl⟩ : ∃ s, args = [s] := by
  unfold cloneWL at hc
  split at hc
  ·exact ⟨_, rfl⟩
  ·exact ⟨_, rfl⟩
  ·cases hc
 intro ok B w args' R hh ha hR
 simp only [VRelL] at ha
 obtain ⟨v, l', rfl, hv, rfl⟩ := ha
 refine callsIn_wide.2 ?_
 have hA := clone_after (P := Tryz.prog) (t := 24) (e := 5) (ty := 24) (by_ := 1) hh Tryz.underlying24 size_5 bytes_5 zero_5 (by omega) (by omega) (by omega) rfl hc hv
 rcases hA with ⟨rfl, hA⟩ | ⟨a, n, c, u, w1, x, w2, ok', B', rfl, h1, h2, hA⟩
 ·exact (clone_nil_141 w).mono fun e w' ⟨he, hw⟩ => by subst he hw; exact hR _ _ _ _ hA
 ·rw [run_build_none (P := Tryz.prog) Tryz.underlying24 size_5] at h1
  simp only [Result.ok.injEq] at h1
  obtain ⟨rfl, rfl⟩ := h1
  exact (clone_some_141 a n c w w2 x h2).mono fun e w' ⟨he, hw⟩ => by subst he hw; exact hR _ _ _ _ hA
end Go.Proofs.YthiciofacaeddaaGreat
end
