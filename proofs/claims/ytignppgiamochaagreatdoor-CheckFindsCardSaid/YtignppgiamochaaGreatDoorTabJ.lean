/- The table of the functions. -/
import Derived.Test.YtignppgiamochaaGreatDoorDen1
import Derived.Test.YtignppgiamochaaGreatDoorDen2
import Derived.Test.YtignppgiamochaaGreatDoorDen3
import Derived.Test.YtignppgiamochaaGreatDoorDen4
import Derived.Test.YtignppgiamochaaGreatDoorDen5
import Derived.Test.YtignppgiamochaaGreatDoorDen6
set_option linter.unusedVariables false
set_option linter.unusedSimpArgs false
namespace Go.AM
open Go Go.Proofs
set_option maxRecDepth 100000
noncomputable section
inductive BT where
 | leaf (n : Nat) (s : SFunc)
 | node (m : Nat) (l r : BT)
def ifS (c : Bool) (a b : Option SFunc) : Option SFunc := Bool.rec (motive := fun _ => Option SFunc) b a c
def BT.get (t : BT) (g : Nat) : Option SFunc := BT.rec (motive := fun _ => Nat → Option SFunc) (fun n s g => ifS (Nat.beq n g) (some s) none) (fun m _ _ x y g => ifS (Nat.ble m g) (y g) (x g)) t g
def BT.all (p : Nat × SFunc → Prop) : BT → Prop
 | .leaf n s => p (n, s)
 | .node _ l r => l.all p ∧ r.all p
theorem BT.get_all {p : Nat × SFunc → Prop} : ∀ {t : BT} {g : Nat} {s : SFunc}, t.all p → t.get g = some s → p (g, s) := by
 intro t
 induction t with
 | leaf n u =>
  intro g s h hg
  have hg' : ifS (Nat.beq n g) (some u) none = some s := hg
  cases hb : Nat.beq n g with
  | false => rw [hb] at hg'; cases hg'
  | true =>
   rw [hb] at hg'
   have := Nat.eq_of_beq_eq_true hb
   subst this
   cases hg'
   exact h
 | node m l r ihl ihr =>
  intro g s h hg
  have hg' : ifS (Nat.ble m g) (r.get g) (l.get g) = some s := hg
  cases hb : Nat.ble m g with
  | false => rw [hb] at hg'; exact ihl h.1 hg'
  | true => rw [hb] at hg'; exact ihr h.2 hg'
def treeF : BT := (.node 164 (.node 93 (.node 65 (.node 38 (.node 31 (.node 27 (.node 20 (.leaf 7 f7) (.leaf 20 f20)) (.node 28 (.leaf 27 f27) (.node 29 (.leaf 28 f28) (.leaf 29 f29)))) (.node 33 (.node 32 (.leaf 31 f31) (.leaf 32 f32)) (.node 34 (.leaf 33 f33) (.node 36 (.leaf 34 f34) (.leaf 36 f36))))) (.node 49 (.node 42 (.node 39 (.leaf 38 f38) (.leaf 39 f39)) (.node 43 (.leaf 42 f42) (.node 44 (.leaf 43 f43) (.leaf 44 f44)))) (.node 56 (.node 51 (.leaf 49 f49) (.node 52 (.leaf 51 f51) (.leaf 52 f52))) (.node 57 (.leaf 56 f56) (.node 58 (.leaf 57 f57) (.leaf 58 f58)))))) (.node 78 (.node 71 (.node 68 (.node 66 (.leaf 65 f65) (.leaf 66 f66)) (.node 69 (.leaf 68 f68) (.node 70 (.leaf 69 f69) (.leaf 70 f70)))) (.node 74 (.node 72 (.leaf 71 f71) (.node 73 (.leaf 72 f72) (.leaf 73 f73))) (.node 75 (.leaf 74 f74) (.node 76 (.leaf 75 f75) (.leaf 76 f76))))) (.node 87 (.node 81 (.node 80 (.leaf 78 f78) (.leaf 80 f80)) (.node 82 (.leaf 81 f81) (.node 83 (.leaf 82 f82) (.leaf 83 f83)))) (.node 90 (.node 88 (.leaf 87 f87) (.node 89 (.leaf 88 f88) (.leaf 89 f89))) (.node 91 (.leaf 90 f90) (.node 92 (.leaf 91 f91) (.leaf 92 f92))))))) (.node 122 (.node 106 (.node 100 (.node 97 (.node 94 (.leaf 93 f93) (.leaf 94 f94)) (.node 98 (.leaf 97 f97) (.node 99 (.leaf 98 f98) (.leaf 99 f99)))) (.node 102 (.node 101 (.leaf 100 f100) (.leaf 101 f101)) (.node 103 (.leaf 102 f102) (.node 104 (.leaf 103 f103) (.leaf 104 f104))))) (.node 112 (.node 109 (.node 108 (.leaf 106 f106) (.leaf 108 f108)) (.node 110 (.leaf 109 f109) (.node 111 (.leaf 110 f110) (.leaf 111 f111)))) (.node 115 (.node 113 (.leaf 112 f112) (.node 114 (.leaf 113 f113) (.leaf 114 f114))) (.node 117 (.leaf 115 f115) (.node 121 (.leaf 117 f117) (.leaf 121 f121)))))) (.node 147 (.node 135 (.node 129 (.node 126 (.leaf 122 f122) (.leaf 126 f126)) (.node 130 (.leaf 129 f129) (.node 131 (.leaf 130 f130) (.leaf 131 f131)))) (.node 144 (.node 136 (.leaf 135 f135) (.node 143 (.leaf 136 f136) (.leaf 143 f143))) (.node 145 (.leaf 144 f144) (.node 146 (.leaf 145 f145) (.leaf 146 f146))))) (.node 157 (.node 154 (.node 153 (.leaf 147 f147) (.leaf 153 f153)) (.node 155 (.leaf 154 f154) (.node 156 (.leaf 155 f155) (.leaf 156 f156)))) (.node 161 (.node 159 (.leaf 157 f157) (.node 160 (.leaf 159 f159) (.leaf 160 f160))) (.node 162 (.leaf 161 f161) (.node 163 (.leaf 162 f162) (.leaf 163 f163)))))))) (.node 235 (.node 186 (.node 174 (.node 169 (.node 166 (.node 165 (.leaf 164 f164) (.leaf 165 f165)) (.node 167 (.leaf 166 f166) (.node 168 (.leaf 167 f167) (.leaf 168 f168)))) (.node 171 (.node 170 (.leaf 169 f169) (.leaf 170 f170)) (.node 172 (.leaf 171 f171) (.node 173 (.leaf 172 f172) (.leaf 173 f173))))) (.node 180 (.node 177 (.node 175 (.leaf 174 f174) (.leaf 175 f175)) (.node 178 (.leaf 177 f177) (.node 179 (.leaf 178 f178) (.leaf 179 f179)))) (.node 183 (.node 181 (.leaf 180 f180) (.node 182 (.leaf 181 f181) (.leaf 182 f182))) (.node 184 (.leaf 183 f183) (.node 185 (.leaf 184 f184) (.leaf 185 f185)))))) (.node 201 (.node 193 (.node 189 (.node 187 (.leaf 186 f186) (.leaf 187 f187)) (.node 190 (.leaf 189 f189) (.node 191 (.leaf 190 f190) (.leaf 191 f191)))) (.node 197 (.node 194 (.leaf 193 f193) (.node 195 (.leaf 194 f194) (.leaf 195 f195))) (.node 198 (.leaf 197 f197) (.node 200 (.leaf 198 f198) (.leaf 200 f200))))) (.node 226 (.node 212 (.node 202 (.leaf 201 f201) (.leaf 202 f202)) (.node 216 (.leaf 212 f212) (.node 225 (.leaf 216 f216) (.leaf 225 f225)))) (.node 231 (.node 227 (.leaf 226 f226) (.node 230 (.leaf 227 f227) (.leaf 230 f230))) (.node 232 (.leaf 231 f231) (.node 234 (.leaf 232 f232) (.leaf 234 f234))))))) (.node 260 (.node 247 (.node 240 (.node 237 (.node 236 (.leaf 235 f235) (.leaf 236 f236)) (.node 238 (.leaf 237 f237) (.node 239 (.leaf 238 f238) (.leaf 239 f239)))) (.node 243 (.node 241 (.leaf 240 f240) (.node 242 (.leaf 241 f241) (.leaf 242 f242))) (.node 244 (.leaf 243 f243) (.node 246 (.leaf 244 f244) (.leaf 246 f246))))) (.node 252 (.node 249 (.node 248 (.leaf 247 f247) (.leaf 248 f248)) (.node 250 (.leaf 249 f249) (.node 251 (.leaf 250 f250) (.leaf 251 f251)))) (.node 255 (.node 253 (.leaf 252 f252) (.node 254 (.leaf 253 f253) (.leaf 254 f254))) (.node 256 (.leaf 255 f255) (.node 259 (.leaf 256 f256) (.leaf 259 f259)))))) (.node 288 (.node 281 (.node 276 (.node 275 (.leaf 260 f260) (.leaf 275 f275)) (.node 278 (.leaf 276 f276) (.node 280 (.leaf 278 f278) (.leaf 280 f280)))) (.node 284 (.node 282 (.leaf 281 f281) (.node 283 (.leaf 282 f282) (.leaf 283 f283))) (.node 285 (.leaf 284 f284) (.node 286 (.leaf 285 f285) (.leaf 286 f286))))) (.node 308 (.node 292 (.node 290 (.leaf 288 f288) (.leaf 290 f290)) (.node 300 (.leaf 292 f292) (.node 301 (.leaf 300 f300) (.leaf 301 f301)))) (.node 311 (.node 309 (.leaf 308 f308) (.node 310 (.leaf 309 f309) (.leaf 310 f310))) (.node 314 (.leaf 311 f311) (.node 318 (.leaf 314 f314) (.leaf 318 f318)))))))))
def tabF : Nat → Option SFunc := treeF.get
def putsF : List Put := [w0, w1, w2, w3, w4, w5, w6, w7, w8, w9, w10, w11, w12, w13, w14, w15, w16, w17, w18, w19, w20, w21, w22, w23]
theorem tree_all : treeF.all Xu := ⟨⟨⟨⟨⟨⟨⟨d7, d20⟩, ⟨d27, ⟨d28, d29⟩⟩⟩, ⟨⟨d31, d32⟩, ⟨d33, ⟨d34, d36⟩⟩⟩⟩, ⟨⟨⟨d38, d39⟩, ⟨d42, ⟨d43, d44⟩⟩⟩, ⟨⟨d49, ⟨d51, d52⟩⟩, ⟨d56, ⟨d57, d58⟩⟩⟩⟩⟩, ⟨⟨⟨⟨d65, d66⟩, ⟨d68, ⟨d69, d70⟩⟩⟩, ⟨⟨d71, ⟨d72, d73⟩⟩, ⟨d74, ⟨d75, d76⟩⟩⟩⟩, ⟨⟨⟨d78, d80⟩, ⟨d81, ⟨d82, d83⟩⟩⟩, ⟨⟨d87, ⟨d88, d89⟩⟩, ⟨d90, ⟨d91, d92⟩⟩⟩⟩⟩⟩, ⟨⟨⟨⟨⟨d93, d94⟩, ⟨d97, ⟨d98, d99⟩⟩⟩, ⟨⟨d100, d101⟩, ⟨d102, ⟨d103, d104⟩⟩⟩⟩, ⟨⟨⟨d106, d108⟩, ⟨d109, ⟨d110, d111⟩⟩⟩, ⟨⟨d112, ⟨d113, d114⟩⟩, ⟨d115, ⟨d117, d121⟩⟩⟩⟩⟩, ⟨⟨⟨⟨d122, d126⟩, ⟨d129, ⟨d130, d131⟩⟩⟩, ⟨⟨d135, ⟨d136, d143⟩⟩, ⟨d144, ⟨d145, d146⟩⟩⟩⟩, ⟨⟨⟨d147, d153⟩, ⟨d154, ⟨d155, d156⟩⟩⟩, ⟨⟨d157, ⟨d159, d160⟩⟩, ⟨d161, ⟨d162, d163⟩⟩⟩⟩⟩⟩⟩, ⟨⟨⟨⟨⟨⟨d164, d165⟩, ⟨d166, ⟨d167, d168⟩⟩⟩, ⟨⟨d169, d170⟩, ⟨d171, ⟨d172, d173⟩⟩⟩⟩, ⟨⟨⟨d174, d175⟩, ⟨d177, ⟨d178, d179⟩⟩⟩, ⟨⟨d180, ⟨d181, d182⟩⟩, ⟨d183, ⟨d184, d185⟩⟩⟩⟩⟩, ⟨⟨⟨⟨d186, d187⟩, ⟨d189, ⟨d190, d191⟩⟩⟩, ⟨⟨d193, ⟨d194, d195⟩⟩, ⟨d197, ⟨d198, d200⟩⟩⟩⟩, ⟨⟨⟨d201, d202⟩, ⟨d212, ⟨d216, d225⟩⟩⟩, ⟨⟨d226, ⟨d227, d230⟩⟩, ⟨d231, ⟨d232, d234⟩⟩⟩⟩⟩⟩, ⟨⟨⟨⟨⟨d235, d236⟩, ⟨d237, ⟨d238, d239⟩⟩⟩, ⟨⟨d240, ⟨d241, d242⟩⟩, ⟨d243, ⟨d244, d246⟩⟩⟩⟩, ⟨⟨⟨d247, d248⟩, ⟨d249, ⟨d250, d251⟩⟩⟩, ⟨⟨d252, ⟨d253, d254⟩⟩, ⟨d255, ⟨d256, d259⟩⟩⟩⟩⟩, ⟨⟨⟨⟨d260, d275⟩, ⟨d276, ⟨d278, d280⟩⟩⟩, ⟨⟨d281, ⟨d282, d283⟩⟩, ⟨d284, ⟨d285, d286⟩⟩⟩⟩, ⟨⟨⟨d288, d290⟩, ⟨d292, ⟨d300, d301⟩⟩⟩, ⟨⟨d308, ⟨d309, d310⟩⟩, ⟨d311, ⟨d314, d318⟩⟩⟩⟩⟩⟩⟩⟩
theorem tab_ok : TabOk tabF FP := fun g s h => by
 obtain ⟨P, h1⟩ := BT.get_all tree_all h
 obtain ⟨af, h2, h3⟩ := isDen_of h1
 exact ⟨af, P, h2, h3⟩
theorem puts_ok : PsOk 0 putsF := by
 unfold putsF
 repeat' (first | trivial | refine ⟨by decide, rfl, ?_⟩)
end
end Go.AM
