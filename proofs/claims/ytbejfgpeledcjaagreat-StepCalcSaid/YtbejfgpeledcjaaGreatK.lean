/- The abstract machine's code is what the program's functions compile to. -/
import Derived.Test.YtbejfgpeledcjaaGreatF1
import Derived.Test.YtbejfgpeledcjaaGreatA8
import Derived.KernelRfl
import Derived.Test.YtbejfgpeledcjaaGreatProg
set_option linter.unusedVariables false
set_option linter.unusedSimpArgs false
namespace Go.Proofs.YtbejfgpeledcjaaGreat.A
noncomputable section
open Go
set_option maxRecDepth 100000
theorem c3 : cFn Tryz.prog 3 = some f3 := by kernel_rfl
theorem c13 : cFn Tryz.prog 13 = some f13 := by kernel_rfl
theorem c14 : cFn Tryz.prog 14 = some f14 := by kernel_rfl
theorem c15 : cFn Tryz.prog 15 = some f15 := by kernel_rfl
theorem c17 : cFn Tryz.prog 17 = some f17 := by kernel_rfl
theorem c22 : cFn Tryz.prog 22 = some f22 := by kernel_rfl
theorem c25 : cFn Tryz.prog 25 = some f25 := by kernel_rfl
theorem c27 : cFn Tryz.prog 27 = some f27 := by kernel_rfl
theorem c33 : cFn Tryz.prog 33 = some f33 := by kernel_rfl
theorem c36 : cFn Tryz.prog 36 = some f36 := by kernel_rfl
theorem c48 : cFn Tryz.prog 48 = some f48 := by kernel_rfl
theorem c49 : cFn Tryz.prog 49 = some f49 := by kernel_rfl
theorem c50 : cFn Tryz.prog 50 = some f50 := by kernel_rfl
theorem c51 : cFn Tryz.prog 51 = some f51 := by kernel_rfl
theorem c52 : cFn Tryz.prog 52 = some f52 := by kernel_rfl
theorem c53 : cFn Tryz.prog 53 = some f53 := by kernel_rfl
theorem c54 : cFn Tryz.prog 54 = some f54 := by kernel_rfl
theorem c55 : cFn Tryz.prog 55 = some f55 := by kernel_rfl
theorem c56 : cFn Tryz.prog 56 = some f56 := by kernel_rfl
theorem c62 : cFn Tryz.prog 62 = some f62 := by kernel_rfl
theorem c63 : cFn Tryz.prog 63 = some f63 := by kernel_rfl
theorem c64 : cFn Tryz.prog 64 = some f64 := by kernel_rfl
theorem c65 : cFn Tryz.prog 65 = some f65 := by kernel_rfl
theorem c67 : cFn Tryz.prog 67 = some f67 := by kernel_rfl
theorem c70 : cFn Tryz.prog 70 = some f70 := by kernel_rfl
theorem c76 : cFn Tryz.prog 76 = some f76 := by kernel_rfl
theorem c80 : cFn Tryz.prog 80 = some f80 := by kernel_rfl
theorem c83 : cFn Tryz.prog 83 = some f83 := by kernel_rfl
theorem c84 : cFn Tryz.prog 84 = some f84 := by kernel_rfl
theorem c85 : cFn Tryz.prog 85 = some f85 := by kernel_rfl
theorem c92 : cFn Tryz.prog 92 = some f92 := by kernel_rfl
theorem c93 : cFn Tryz.prog 93 = some f93 := by kernel_rfl
theorem c94 : cFn Tryz.prog 94 = some f94 := by kernel_rfl
theorem c95 : cFn Tryz.prog 95 = some f95 := by kernel_rfl
theorem c96 : cFn Tryz.prog 96 = some f96 := by kernel_rfl
theorem c97 : cFn Tryz.prog 97 = some f97 := by kernel_rfl
theorem c99 : cFn Tryz.prog 99 = some f99 := by kernel_rfl
theorem c100 : cFn Tryz.prog 100 = some f100 := by kernel_rfl
theorem c101 : cFn Tryz.prog 101 = some f101 := by kernel_rfl
theorem c102 : cFn Tryz.prog 102 = some f102 := by kernel_rfl
theorem c103 : cFn Tryz.prog 103 = some f103 := by kernel_rfl
theorem c104 : cFn Tryz.prog 104 = some f104 := by kernel_rfl
theorem c108 : cFn Tryz.prog 108 = some f108 := by kernel_rfl
theorem c109 : cFn Tryz.prog 109 = some f109 := by kernel_rfl
theorem c110 : cFn Tryz.prog 110 = some f110 := by kernel_rfl
theorem c120 : cFn Tryz.prog 120 = some f120 := by kernel_rfl
theorem c121 : cFn Tryz.prog 121 = some f121 := by kernel_rfl
theorem c122 : cFn Tryz.prog 122 = some f122 := by kernel_rfl
theorem c123 : cFn Tryz.prog 123 = some f123 := by kernel_rfl
theorem c124 : cFn Tryz.prog 124 = some f124 := by kernel_rfl
theorem c125 : cFn Tryz.prog 125 = some f125 := by kernel_rfl
theorem c126 : cFn Tryz.prog 126 = some f126 := by kernel_rfl
theorem c127 : cFn Tryz.prog 127 = some f127 := by kernel_rfl
theorem c128 : cFn Tryz.prog 128 = some f128 := by kernel_rfl
theorem c129 : cFn Tryz.prog 129 = some f129 := by kernel_rfl
theorem c130 : cFn Tryz.prog 130 = some f130 := by kernel_rfl
theorem c131 : cFn Tryz.prog 131 = some f131 := by kernel_rfl
theorem c132 : cFn Tryz.prog 132 = some f132 := by kernel_rfl
theorem c133 : cFn Tryz.prog 133 = some f133 := by kernel_rfl
theorem c134 : cFn Tryz.prog 134 = some f134 := by kernel_rfl
theorem c135 : cFn Tryz.prog 135 = some f135 := by kernel_rfl
theorem c136 : cFn Tryz.prog 136 = some f136 := by kernel_rfl
theorem c160 : cFn Tryz.prog 160 = some f160 := by kernel_rfl
theorem c161 : cFn Tryz.prog 161 = some f161 := by kernel_rfl
theorem c162 : cFn Tryz.prog 162 = some f162 := by kernel_rfl
theorem c163 : cFn Tryz.prog 163 = some f163 := by kernel_rfl
theorem c164 : cFn Tryz.prog 164 = some f164 := by kernel_rfl
theorem c165 : cFn Tryz.prog 165 = some f165 := by kernel_rfl
theorem c166 : cFn Tryz.prog 166 = some f166 := by kernel_rfl
theorem c167 : cFn Tryz.prog 167 = some f167 := by kernel_rfl
theorem c168 : cFn Tryz.prog 168 = some f168 := by kernel_rfl
theorem c169 : cFn Tryz.prog 169 = some f169 := by kernel_rfl
theorem c170 : cFn Tryz.prog 170 = some f170 := by kernel_rfl
theorem c171 : cFn Tryz.prog 171 = some f171 := by kernel_rfl
theorem c172 : cFn Tryz.prog 172 = some f172 := by kernel_rfl
theorem c173 : cFn Tryz.prog 173 = some f173 := by kernel_rfl
theorem c174 : cFn Tryz.prog 174 = some f174 := by kernel_rfl
theorem c175 : cFn Tryz.prog 175 = some f175 := by kernel_rfl
theorem c176 : cFn Tryz.prog 176 = some f176 := by kernel_rfl
theorem c177 : cFn Tryz.prog 177 = some f177 := by kernel_rfl
theorem c178 : cFn Tryz.prog 178 = some f178 := by kernel_rfl
theorem c179 : cFn Tryz.prog 179 = some f179 := by kernel_rfl
theorem c180 : cFn Tryz.prog 180 = some f180 := by kernel_rfl
theorem c181 : cFn Tryz.prog 181 = some f181 := by kernel_rfl
theorem c182 : cFn Tryz.prog 182 = some f182 := by kernel_rfl
theorem c183 : cFn Tryz.prog 183 = some f183 := by kernel_rfl
theorem c184 : cFn Tryz.prog 184 = some f184 := by kernel_rfl
theorem c185 : cFn Tryz.prog 185 = some f185 := by kernel_rfl
theorem c186 : cFn Tryz.prog 186 = some f186 := by kernel_rfl
theorem c187 : cFn Tryz.prog 187 = some f187 := by kernel_rfl
theorem c200 : cFn Tryz.prog 200 = some f200 := by kernel_rfl
theorem c201 : cFn Tryz.prog 201 = some f201 := by kernel_rfl
theorem c202 : cFn Tryz.prog 202 = some f202 := by kernel_rfl
theorem c203 : cFn Tryz.prog 203 = some f203 := by kernel_rfl
theorem c204 : cFn Tryz.prog 204 = some f204 := by kernel_rfl
theorem c205 : cFn Tryz.prog 205 = some f205 := by kernel_rfl
theorem c206 : cFn Tryz.prog 206 = some f206 := by kernel_rfl
theorem c207 : cFn Tryz.prog 207 = some f207 := by kernel_rfl
theorem c208 : cFn Tryz.prog 208 = some f208 := by kernel_rfl
theorem c209 : cFn Tryz.prog 209 = some f209 := by kernel_rfl
theorem c210 : cFn Tryz.prog 210 = some f210 := by kernel_rfl
theorem c211 : cFn Tryz.prog 211 = some f211 := by kernel_rfl
theorem c212 : cFn Tryz.prog 212 = some f212 := by kernel_rfl
theorem c213 : cFn Tryz.prog 213 = some f213 := by kernel_rfl
theorem c214 : cFn Tryz.prog 214 = some f214 := by kernel_rfl
theorem c215 : cFn Tryz.prog 215 = some f215 := by kernel_rfl
theorem c216 : cFn Tryz.prog 216 = some f216 := by kernel_rfl
theorem c217 : cFn Tryz.prog 217 = some f217 := by kernel_rfl
theorem c218 : cFn Tryz.prog 218 = some f218 := by kernel_rfl
theorem c219 : cFn Tryz.prog 219 = some f219 := by kernel_rfl
theorem c220 : cFn Tryz.prog 220 = some f220 := by kernel_rfl
theorem c222 : cFn Tryz.prog 222 = some f222 := by kernel_rfl
theorem c223 : cFn Tryz.prog 223 = some f223 := by kernel_rfl
theorem c224 : cFn Tryz.prog 224 = some f224 := by kernel_rfl
theorem c225 : cFn Tryz.prog 225 = some f225 := by kernel_rfl
theorem c226 : cFn Tryz.prog 226 = some f226 := by kernel_rfl
theorem c227 : cFn Tryz.prog 227 = some f227 := by kernel_rfl
theorem c228 : cFn Tryz.prog 228 = some f228 := by kernel_rfl
theorem c229 : cFn Tryz.prog 229 = some f229 := by kernel_rfl
theorem c230 : cFn Tryz.prog 230 = some f230 := by kernel_rfl
def SysOk (P : Program) (t : Tr AFn) : Prop := ∀ f af, t.get f = some af → cFn P f = some af
theorem SysOk.nil {P : Program} : SysOk P .nil := fun f af h => by rw [Tr.get_nil] at h; cases h
theorem SysOk.put {P : Program} {t : Tr AFn} (ht : SysOk P t) {f : FuncId} {af : AFn} (h : cFn P f = some af) : SysOk P (t.put f af) := by
  intro g ag hg
  rw [Tr.get_put] at hg
  split at hg
  · rename_i he; cases hg; subst he; exact h
  · exact ht g ag hg
theorem sysT_eq : sysT = ((((((((((((((((((((((((((((((((((((((((((((((((((((((((((((((((((((((((((((((((((((((((((((((((((((((((((((((((((((((((Tr.nil.put 3 f3).put 13 f13).put 14 f14).put 15 f15).put 17 f17).put 22 f22).put 25 f25).put 27 f27).put 33 f33).put 36 f36).put 48 f48).put 49 f49).put 50 f50).put 51 f51).put 52 f52).put 53 f53).put 54 f54).put 55 f55).put 56 f56).put 62 f62).put 63 f63).put 64 f64).put 65 f65).put 67 f67).put 70 f70).put 76 f76).put 80 f80).put 83 f83).put 84 f84).put 85 f85).put 92 f92).put 93 f93).put 94 f94).put 95 f95).put 96 f96).put 97 f97).put 99 f99).put 100 f100).put 101 f101).put 102 f102).put 103 f103).put 104 f104).put 108 f108).put 109 f109).put 110 f110).put 120 f120).put 121 f121).put 122 f122).put 123 f123).put 124 f124).put 125 f125).put 126 f126).put 127 f127).put 128 f128).put 129 f129).put 130 f130).put 131 f131).put 132 f132).put 133 f133).put 134 f134).put 135 f135).put 136 f136).put 160 f160).put 161 f161).put 162 f162).put 163 f163).put 164 f164).put 165 f165).put 166 f166).put 167 f167).put 168 f168).put 169 f169).put 170 f170).put 171 f171).put 172 f172).put 173 f173).put 174 f174).put 175 f175).put 176 f176).put 177 f177).put 178 f178).put 179 f179).put 180 f180).put 181 f181).put 182 f182).put 183 f183).put 184 f184).put 185 f185).put 186 f186).put 187 f187).put 200 f200).put 201 f201).put 202 f202).put 203 f203).put 204 f204).put 205 f205).put 206 f206).put 207 f207).put 208 f208).put 209 f209).put 210 f210).put 211 f211).put 212 f212).put 213 f213).put 214 f214).put 215 f215).put 216 f216).put 217 f217).put 218 f218).put 219 f219).put 220 f220).put 222 f222).put 223 f223).put 224 f224).put 225 f225).put 226 f226).put 227 f227).put 228 f228).put 229 f229).put 230 f230) := by kernel_rfl
theorem sysOk : ∀ f af, sys.fns.get f = some af → cFn Tryz.prog f = some af := by
  show SysOk _ sysT
  rw [sysT_eq]
  exact ((((((((((((((((((((((((((((((((((((((((((((((((((((((((((((((((((((((((((((((((((((((((((((((((((((((((((((((((((((((((SysOk.nil.put c3).put c13).put c14).put c15).put c17).put c22).put c25).put c27).put c33).put c36).put c48).put c49).put c50).put c51).put c52).put c53).put c54).put c55).put c56).put c62).put c63).put c64).put c65).put c67).put c70).put c76).put c80).put c83).put c84).put c85).put c92).put c93).put c94).put c95).put c96).put c97).put c99).put c100).put c101).put c102).put c103).put c104).put c108).put c109).put c110).put c120).put c121).put c122).put c123).put c124).put c125).put c126).put c127).put c128).put c129).put c130).put c131).put c132).put c133).put c134).put c135).put c136).put c160).put c161).put c162).put c163).put c164).put c165).put c166).put c167).put c168).put c169).put c170).put c171).put c172).put c173).put c174).put c175).put c176).put c177).put c178).put c179).put c180).put c181).put c182).put c183).put c184).put c185).put c186).put c187).put c200).put c201).put c202).put c203).put c204).put c205).put c206).put c207).put c208).put c209).put c210).put c211).put c212).put c213).put c214).put c215).put c216).put c217).put c218).put c219).put c220).put c222).put c223).put c224).put c225).put c226).put c227).put c228).put c229).put c230)
theorem mixed : Tryz.prog.follows .mixedOrders = true := by kernel_rfl
theorem kSim (n : Nat) : KSim Tryz.prog (callN sys n) := sound mixed sysOk n
end
end Go.Proofs.YtbejfgpeledcjaaGreat.A
